/- A bundle of this claim's own texts: H1 H4 K8. -/
import Derived.Test.YtniklgkoiaeipaaGreatDoorD2
import Derived.Test.YtniklgkoiaeipaaGreatDoorD21
import Derived.Test.YtniklgkoiaeipaaGreatDoorD34
import Derived.Test.YtniklgkoiaeipaaGreatDoorD35
set_option linter.unusedVariables false
set_option linter.unusedSimpArgs false
set_option maxRecDepth 100000
set_option maxHeartbeats 4000000
namespace Go.Sp
open Go Go.Av

section
variable {K : Fo → Prop} {l : List Fo}
theorem Wf.sem_two {o : Fo} {a b : List Fo} (wa : Wf K a) (wb : Wf K b) (h8 : ∀ o, K o → 8 ≤ o.kind) (σ : Nat → Nat → Bool) : iAt (o :: (a ++ b)) σ 0 = opI o.kind o.val σ (iAt a σ 0) (iAt b σ 0) := by
 have L := iAt_eq (o :: (a ++ b)) σ 0 (by simp)
 have Ha := wa.iAt_in h8 σ [o] b [] []
 have Hb := wb.iAt_in h8 σ ([o] ++ a) [] [] []
 have s : second (o :: (a ++ b)) 0 = 1 + a.length := by
  have := wa.endE [o] b
  unfold second
  rw [List.append_assoc, List.singleton_append, List.length_singleton] at this
  rw [this, Int.toNat_natCast]
 simp only [List.append_nil, List.nil_append, List.length_nil, List.length_singleton, List.singleton_append, List.cons_append, List.length_cons, List.append_assoc] at Ha Hb
 rw [L, stepI_op, s, if_pos (by omega), Nat.zero_add, Ha, Nat.add_comm 1, Hb]
 rfl
theorem Wf.sem_not (w : Wf K l) (h8 : ∀ o, K o → 8 ≤ o.kind) (σ : Nat → Nat → Bool) : iAt (⟨10, 0⟩ :: l) σ 0 = fun i => !iAt l σ 0 i := w.sem_one rfl h8 σ (fun _ => true)
end
theorem FoK.ge {p : Int} {o : Fo} (h : FoK p o) : 8 ≤ o.kind := by
 unfold FoK fitsZ at h
 split at h
 · cases h
 · omega

theorem FoG.not {f : List Fo} (w : Wf (FoK 3) f) (hl : f.length ≤ 59) (ha : nAh f ≤ 6) : FoG (⟨10, 0⟩ :: f) :=
 ⟨w.one' 10 (by decide) rfl, by rw [List.length_cons]; omega, by rw [nAh_cons, if_neg (by unfold aheadP; dsimp only; omega)]; omega⟩
theorem ge8 : ∀ o, FoK 3 o → 8 ≤ o.kind := fun _ h => FoK.ge h
theorem nxtG_get (d : De) (i : Nat) (h : i < (nxtG d (manyG d)).length) : (nxtG d (manyG d))[i] = (nextF (modG d) i).1 := by simp [nxtG]
end Go.Sp
