/- What an argument of each type is: graphs, words. -/
import Derived.Test.YtnlfhnbcdfdhgaaCf
import Derived.Test.YtnlfhnbcdfdhgaaG1
namespace Go.Proofs.Ytnlfhnbcdfdhgaa
open Go Go.Av Go.Sp
set_option linter.unusedVariables false
set_option linter.unusedSimpArgs false
set_option maxRecDepth 100000
set_option maxHeartbeats 4000000
theorem conf_struct5_of {P : Program} {g : Nat} {t : TypeId} {f0 f1 f2 f3 f4 : Field} {xs : List D} (hu : P.underlying t = some (.struct #[f0, f1, f2, f3, f4])) (h : Conf P (g + 1) t xs) : ∃ p0 p1 p2 p3 p4, xs = p0 ++ (p1 ++ (p2 ++ (p3 ++ p4))) ∧ Conf P g f0.type p0 ∧ Conf P g f1.type p1 ∧ Conf P g f2.type p2 ∧ Conf P g f3.type p3 ∧ Conf P g f4.type p4 := by
 unfold Conf at h
 rw [hu] at h
 obtain ⟨parts, rfl, hl, hp⟩ := h
 match parts, hl with
 | [p0, p1, p2, p3, p4], _ => exact ⟨p0, p1, p2, p3, p4, by simp, hp 0 f0 p0 rfl rfl, hp 1 f1 p1 rfl rfl, hp 2 f2 p2 rfl rfl, hp 3 f3 p3 rfl rfl, hp 4 f4 p4 rfl rfl⟩
theorem conf_lists {g : Nat} {xs : List D} (h : Conf Try.prog (g + 3) 23 xs) : ∃ l : List (List Int), xs = [listsD l] ∧ l.length * 24 ≤ 140737488351232 := conf_slice_of Try.underlying23 (by kernel_rfl) (by kernel_rfl) (fun _ h => by obtain ⟨l, h, _⟩ := conf_ints h; exact ⟨l, h⟩) h
def lettC (l : List Bool) : List D := [boolsD l]
abbrev lettD (l : List (List Bool)) : D := .l 1 24 (l.map lettC)
structure Wd where
 stem : List (List Bool)
 loop : List (List Bool)
def Wd.cells (w : Wd) : List D := [lettD w.stem, lettD w.loop]
abbrev wdA (w : Wd) : AV := .agg [.d (lettD w.stem), .d (lettD w.loop)]
end Go.Proofs.Ytnlfhnbcdfdhgaa
