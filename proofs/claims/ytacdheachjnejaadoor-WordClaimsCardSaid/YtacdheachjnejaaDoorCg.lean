/- What an argument of each type is: graphs, words. -/
import Derived.Test.YtacdheachjnejaaDoorCf
import Derived.Test.YtacdheachjnejaaDoorG1
namespace Go.Proofs.YtacdheachjnejaaDoor
open Go Go.Av Go.Sp
set_option linter.unusedVariables false
set_option linter.unusedSimpArgs false
set_option maxRecDepth 100000
set_option maxHeartbeats 4000000
theorem conf_struct5_of {P : Program} {g : Nat} {t : TypeId} {f0 f1 f2 f3 f4 : Field} {xs : List D} (hu : P.underlying t = some (.struct #[f0, f1, f2, f3, f4])) (h : Conf P (g + 1) t xs) : ∃ p0 p1 p2 p3 p4, xs = p0 ++ (p1 ++ (p2 ++ (p3 ++ p4))) ∧ Conf P g f0.type p0 ∧ Conf P g f1.type p1 ∧ Conf P g f2.type p2 ∧ Conf P g f3.type p3 ∧ Conf P g f4.type p4 := by
  unfold Conf at h
  rw [hu] at h
  obtain ⟨parts, rfl, hl, hp⟩ := h
  match parts, hl with
  | [p0, p1, p2, p3, p4], _ => exact ⟨p0, p1, p2, p3, p4, by simp, hp 0 f0 p0 rfl rfl, hp 1 f1 p1 rfl rfl, hp 2 f2 p2 rfl rfl, hp 3 f3 p3 rfl rfl, hp 4 f4 p4 rfl rfl⟩
def lettC (l : List Bool) : List D := [boolsD l]
abbrev lettD (l : List (List Bool)) : D := .l 1 24 (l.map lettC)
structure Wd where
  stem : List (List Bool)
  loop : List (List Bool)
def Wd.cells (w : Wd) : List D := [lettD w.stem, lettD w.loop]
abbrev wdA (w : Wd) : AV := .agg [.d (lettD w.stem), .d (lettD w.loop)]
theorem conf_letters {g : Nat} {xs : List D} (h : Conf Tryd.prog (g + 3) 31 xs) : ∃ l : List (List Bool), xs = [lettD l] ∧ l.length * 24 ≤ 140737488351232 := conf_slice_of Tryd.underlying31 (by kernel_rfl) (by kernel_rfl) (fun _ h => by obtain ⟨l, h, _⟩ := conf_bools h; exact ⟨l, h⟩) h
theorem conf_Word {g : Nat} {xs : List D} (h : Conf Tryd.prog (g + 4) 33 xs) : ∃ o : Wd, xs = o.cells := by
  obtain ⟨p0, p1, rfl, h0, h1⟩ := conf_struct2_of Tryd.underlying33 h
  obtain ⟨a, rfl, _⟩ := conf_letters h0
  obtain ⟨b, rfl, _⟩ := conf_letters h1
  exact ⟨⟨a, b⟩, rfl⟩
end Go.Proofs.YtacdheachjnejaaDoor
