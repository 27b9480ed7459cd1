/- A bundle of this claim's own texts: R2. -/
import Derived.Test.YtajnpfgelpkijaaGreatDoorA2
import Derived.Test.YtajnpfgelpkijaaGreatDoorA5
import Derived.Test.YtajnpfgelpkijaaGreatDoorA15
set_option linter.unusedVariables false
set_option linter.unusedSimpArgs false
set_option maxRecDepth 100000
set_option maxHeartbeats 4000000
namespace Go.Proofs.YtajnpfgelpkijaaGreatDoor
open Go Go.Av Go.Sp
theorem Gz : Cal Tryz.prog 29 := Cal.of Tryz.func29 (by kernel_rfl) (by kernel_rfl)
theorem gPow : Tryz.prog.globalNamed "internal/strconv.uint64pow10" = some 4 := by kernel_rfl
theorem Ze (n : Int) (h0 : -9223372036854775808 ≤ n) (h1 : n ≤ 9223372036854775807) : ACr Tryz.prog GP 29 [.int n] (.val (.string (tx (Lib.itoa n)))) := by
 refine KD (us := [.int .i64 n]) fun w I hg => ?_
 have htab : Lib.TabIs Tryz.prog w "internal/strconv.uint64pow10" .u64 Lib.pow10Tab := by
  obtain ⟨c, _, hr⟩ := (hg _ eQ).2 0 _ rfl
  cases hr with
  | sm p b o v hI hw hc hq h1 =>
    obtain ⟨rfl, t, fr, rfl⟩ := hq
    unfold Lib.TabIs World.var?
    rw [gPow, Option.bind_some, hw]
 refine (Any.strconv_Itoa Tryz.laysM171 n h0 h1 w htab).mono ?_
 rintro e w' ⟨rfl, k, os, rfl⟩
 exact ⟨rfl, Kq w k os⟩
end Go.Proofs.YtajnpfgelpkijaaGreatDoor
