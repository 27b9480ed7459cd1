/- A bundle of this claim's own texts: M5. -/
import Derived.Test.YtajnpfgelpkijaaGreatDoorA5
import Derived.Test.YtajnpfgelpkijaaGreatDoorA38
set_option linter.unusedVariables false
set_option linter.unusedSimpArgs false
set_option maxRecDepth 100000
set_option maxHeartbeats 4000000
namespace Go.Proofs.YtajnpfgelpkijaaGreatDoor
open Go Go.Av Go.Sp

theorem Fy : Cal Tryz.prog 52 := Cal.of Tryz.func52 (by kernel_rfl) (by kernel_rfl)
theorem CZ : Cal Tryz.prog 136 := Cal.of Tryz.func136 (by kernel_rfl) (by kernel_rfl)
theorem cz (m : Md) (l : List (List Fo)) : ACr Tryz.prog GP 52 [mdA m, .d (Bi l)] (.int (CS m l)) := by
 refine AK (ts := [4]) Tryz.f52.ntmps Tryz.func52 rfl rfl rfl (by simp [Tryz.ntmps52]) fun W I => ?_
 by_cases c1 : Ah m ≠ 0
 · repeat' (first
    | refine ca As (B4 _) ?_
    | refine ca Bw (kind _ _ _) ?_
    | exact True.intro | refine AJ ?_ | refine two ?_ ?_ | refine AG fun c_ => ?_
    | (refine imp fun hc => ?_) <;> try exact cx1 hc
    | refine all fun v_ => ?_)
   refine AO (VS.drop (List.nil_sublist _)) ?_
   ((with_reducible apply rq1); rfl; rfl)
   exact AD (by rw [CS, if_pos c1])
 by_cases c2 : 6 < l.length
 · repeat' (first
    | refine ca As (B4 _) ?_
    | refine ca Bw (kind _ _ _) ?_
    | exact True.intro | refine AJ ?_ | refine two ?_ ?_ | refine AG fun c_ => ?_
    | (refine imp fun hc => ?_) <;> try exact cx1 hc
    | refine all fun v_ => ?_)
   refine AO (VS.drop (List.nil_sublist _)) ?_
   ((with_reducible apply rq1); rfl; rfl)
   exact AD (by rw [CS, if_neg c1, if_pos c2])
 have hF : CS m l = Cm m.vars.length l := by rw [CS, if_neg c1, if_neg c2]
 repeat' (first
  | refine ca As (B4 _) ?_
  | refine ca Bw (kind _ _ _) ?_
  | exact True.intro | refine AJ ?_ | refine two ?_ ?_ | refine AG fun c_ => ?_
  | (refine imp fun hc => ?_) <;> try exact cx1 hc
  | refine all fun v_ => ?_)
 refine AL (X := Nat) (fun i => [(2, .val (.pointer (some ⟨v_, 0, none⟩))), (17, .d (Bi l)), (18, .int l.length), (19, .int i)]) (fun _ => [.cells v_ 25 [.d (Ba m.vars), .d (BH m.rules)]]) (fun i => i ≤ l.length ∧ CS m l = Cm m.vars.length (l.drop i)) (fun i => l.length - i) 0 ⟨Nat.zero_le _, hF⟩ (VS.of_le ?_) ?_
 · exact leD
 rintro i ⟨h1, h4⟩
 by_cases hi : ¬ i < l.length
 · rw [Sv _ _ i (by omega)] at h4
   repeat' (first
    | refine ca As (B4 _) ?_
    | refine ca Bw (kind _ _ _) ?_
    | exact True.intro | refine AJ ?_ | refine two ?_ ?_ | refine AG fun c_ => ?_
    | (refine imp fun hc => ?_) <;> try exact cx1 hc
    | refine all fun v_ => ?_)
   refine AO (VS.drop (List.nil_sublist _)) ?_
   ((with_reducible apply rq1); rfl; rfl)
   exact AD (by rw [h4])
 replace hi := Decidable.not_not.1 hi
 rw [XD _ _ i hi] at h4
 by_cases c3 : CF l[i] m.vars.length true ≠ 0
 · rw [if_pos c3] at h4
   repeat' (first
    | refine ca As (B4 _) ?_
    | refine ca Bw (kind _ _ _) ?_
    | exact True.intro | refine AJ ?_ | refine two ?_ ?_ | refine AG fun c_ => ?_
    | (refine imp fun hc => ?_) <;> try exact cx1 hc
    | refine all fun v_ => ?_)
   refine AO (VS.drop (List.nil_sublist _)) ?_
   ((with_reducible apply rq1); rfl; rfl)
   exact AD (by rw [h4])
 rw [if_neg c3] at h4
 repeat' (first
  | refine ca As (B4 _) ?_
  | refine ca Bw (kind _ _ _) ?_
  | exact True.intro | refine AJ ?_ | refine two ?_ ?_ | refine AG fun c_ => ?_
  | (refine imp fun hc => ?_) <;> try exact cx1 hc
  | refine all fun v_ => ?_)
 refine ⟨i + 1, ⟨by omega, h4⟩, by omega, VS.take (by exact AS) ?_⟩
 exact leD
theorem Count (m : Md) : ACr Tryz.prog GP 136 [mdA m] (.tup [.int (Ir m).1, .int (Ir m).2]) := by
 refine AK (ts := [2, 3]) Tryz.f136.ntmps Tryz.func136 rfl rfl rfl (by simp [Tryz.ntmps136]) fun W I => ?_
 by_cases c1 : Ah m ≠ 0
 · repeat' (first
    | refine ca As (B4 _) ?_
    | exact True.intro | refine AJ ?_ | refine two ?_ ?_ | refine AG fun c_ => ?_
    | (refine imp fun hc => ?_) <;> try exact cx1 hc
    | refine all fun v_ => ?_)
   refine AO (VS.drop (List.nil_sublist _)) ?_
   ((with_reducible apply rq2); rfl; rfl; rfl)
   exact AD (by rw [Ir, if_pos c1])
 have hv := BP (show Ah m = 0 by omega)
 have g := KW hv
 have hl6 := Hp hv
 repeat' (first
  | refine ca As (B4 _) ?_
  | exact True.intro | refine AJ ?_ | refine two ?_ ?_ | refine AG fun c_ => ?_
  | (refine imp fun hc => ?_) <;> try exact cx1 hc
  | refine all fun v_ => ?_)
 refine AL (X := Nat) (fun i => [(5, .int (AR (m.vars.take i))), (14, .d (Ba m.vars)), (15, .int m.vars.length), (16, .int i)]) (fun _ => []) (fun i => i ≤ m.vars.length) (fun i => m.vars.length - i) 0 (Nat.zero_le _) (VS.trans (VS.drop (List.nil_sublist _)) (VS.of_le ?_)) ?_
 · exact leD
 rintro i h1
 by_cases hi : ¬ i < m.vars.length
 · obtain rfl : i = m.vars.length := by omega
   repeat' (first
    | refine ca As (B4 _) ?_
    | exact True.intro | refine AJ ?_ | refine two ?_ ?_ | refine AG fun c_ => ?_
    | (refine imp fun hc => ?_) <;> try exact cx1 hc
    | refine all fun v_ => ?_)
   refine AO (VS.drop (List.nil_sublist _)) ?_
   ((with_reducible apply rq2); rfl; rfl; rfl)
   exact AD (by rw [Ir, if_neg c1, List.take_length])
 replace hi := Decidable.not_not.1 hi
 have e := Gc m.vars i hi
 have b1 := g.take i
 have b2 := g.take (i + 1)
 have b3 := g.range _ (List.getElem_mem hi)
 obtain ⟨d1, d2, d3, d4, d5⟩ := b3
 rw [e] at b2
 have hsp : A6 m.vars[i] = m.vars[i].high - m.vars[i].low + 1 := rfl
 rw [hsp] at b2 e
 have hin : Aj (AR (m.vars.take i) * (m.vars[i].high - m.vars[i].low + 1)) := ⟨by omega, by omega⟩
 repeat' (first
  | refine ca As (B4 _) ?_
  | exact True.intro | refine AJ ?_ | refine two ?_ ?_ | refine AG fun c_ => ?_
  | (refine imp fun hc => ?_) <;> try exact cx1 hc
  | refine all fun v_ => ?_)
 refine ⟨i + 1, by omega, by omega, ?_⟩
 rw [e]
 refine VS.trans (VS.drop (List.nil_sublist _)) (VS.of_le ?_)
 exact leD
end Go.Proofs.YtajnpfgelpkijaaGreatDoor
