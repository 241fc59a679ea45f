import Derived.Test.YtihpiejlfdinaaaQa
import Derived.Test.YtihpiejlfdinaaaPc
/-
  The laws' own sanity check holds.
-/
namespace Go.Proofs.Ytihpiejlfdinaaa.PF
open Go Go.RowKit Go.Maps Go.My Go.Proofs.YtihpiejlfdinaaaW.PrintWords

set_option maxRecDepth 100000 in
set_option maxHeartbeats 4000000 in
theorem sane9 : chartroomlaw27_sane.f 9 = some true := by kernel_rfl
theorem sane_f : ∀ k, chartroomlaw27_sane.f (k + 9) = some true
  | 0 => sane9
  | k + 1 => chartroomlaw27_sane.mono (k + 9) true (sane_f k)

end Go.Proofs.Ytihpiejlfdinaaa.PF
