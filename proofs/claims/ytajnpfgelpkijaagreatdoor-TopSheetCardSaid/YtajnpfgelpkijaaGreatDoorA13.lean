/- A bundle of this claim's own texts: V1. -/
import Derived.Test.YtajnpfgelpkijaaGreatDoorA2
import Derived.Test.YtajnpfgelpkijaaGreatDoorA8
set_option linter.unusedVariables false
set_option linter.unusedSimpArgs false
set_option maxRecDepth 100000
set_option maxHeartbeats 4000000
namespace Go.Proofs.YtajnpfgelpkijaaGreatDoor
open Go Go.Av Go.Sp

theorem GM : Cal Tryz.prog 106 := Cal.of Tryz.func106 (by kernel_rfl) (by kernel_rfl)
abbrev grA (g : Gr) : AV := .agg [.d (AN g.spots), .int g.init, .d (D9 g.next), .d (AP g.sets), .int g.many]
theorem dF (n : Nat) (h : n ≤ 6) : 1 ≤ (2 : Int) ^ n ∧ (2 : Int) ^ n ≤ 64 := by
 have : n = 0 ∨ n = 1 ∨ n = 2 ∨ n = 3 ∨ n = 4 ∨ n = 5 ∨ n = 6 := by omega
 rcases this with rfl | rfl | rfl | rfl | rfl | rfl | rfl <;> decide
theorem Cl {g : Gr} (h : ¬ IE g) : KC g = 9 := if_neg fun k => h k.1
theorem Kj {g : Gr} {i : Nat} (hi : i < g.spots.length) (h : ¬ Zg g i) : KC g = 9 := if_neg fun k => h (k.2 i hi)
theorem J1 {g : Gr} (h : okG g) : KC g = 0 := if_pos h
theorem Zy (G : List (Nat × List D)) (g : Gr) : ACr Tryz.prog G 106 [grA g] (.int (KC g)) := by
 refine AC.factN (g := IC) (f := Ag) (xss := g.next) 1 8 (fun _ => rfl) (.agg (.there (.there .here))) fun hN => ?_
 refine AK (ts := [2]) Tryz.f106.ntmps Tryz.func106 rfl rfl rfl (by simp [Tryz.ntmps106]) fun W I => ?_
 by_cases q1 : ¬ g.spots.length ≤ 20000
 · have hh : ¬ IE g := fun h => by obtain ⟨_, _, _, _, _, _, _⟩ := h; omega
   repeat' (first
    | exact True.intro | refine AM ?_ | refine two ?_ ?_
    | (refine imp fun hc => ?_) <;> try exact cx hc
    | refine all fun v_ => ?_)
   refine AO (VS.drop (List.nil_sublist _)) ?_
   ((with_reducible apply rq1); rfl; rfl)
   exact AD (by rw [Cl hh])
 replace q1 := Decidable.not_not.1 q1
 by_cases q2 : ¬ g.next.length = g.spots.length
 · have hh : ¬ IE g := fun h => by obtain ⟨_, _, _, _, _, _, _⟩ := h; omega
   repeat' (first
    | exact True.intro | refine AM ?_ | refine two ?_ ?_
    | (refine imp fun hc => ?_) <;> try exact cx hc
    | refine all fun v_ => ?_)
   refine AO (VS.drop (List.nil_sublist _)) ?_
   ((with_reducible apply rq1); rfl; rfl)
   exact AD (by rw [Cl hh])
 replace q2 := Decidable.not_not.1 q2
 by_cases q3 : ¬ g.sets.length = g.spots.length
 · have hh : ¬ IE g := fun h => by obtain ⟨_, _, _, _, _, _, _⟩ := h; omega
   repeat' (first
    | exact True.intro | refine AM ?_ | refine two ?_ ?_
    | (refine imp fun hc => ?_) <;> try exact cx hc
    | refine all fun v_ => ?_)
   refine AO (VS.drop (List.nil_sublist _)) ?_
   ((with_reducible apply rq1); rfl; rfl)
   exact AD (by rw [Cl hh])
 replace q3 := Decidable.not_not.1 q3
 by_cases q4 : ¬ 0 ≤ g.init
 · have hh : ¬ IE g := fun h => by obtain ⟨_, _, _, _, _, _, _⟩ := h; omega
   repeat' (first
    | exact True.intro | refine AM ?_ | refine two ?_ ?_
    | (refine imp fun hc => ?_) <;> try exact cx hc
    | refine all fun v_ => ?_)
   refine AO (VS.drop (List.nil_sublist _)) ?_
   ((with_reducible apply rq1); rfl; rfl)
   exact AD (by rw [Cl hh])
 replace q4 := Decidable.not_not.1 q4
 by_cases q5 : ¬ g.init ≤ g.spots.length
 · have hh : ¬ IE g := fun h => by obtain ⟨_, _, _, _, _, _, _⟩ := h; omega
   repeat' (first
    | exact True.intro | refine AM ?_ | refine two ?_ ?_
    | (refine imp fun hc => ?_) <;> try exact cx hc
    | refine all fun v_ => ?_)
   refine AO (VS.drop (List.nil_sublist _)) ?_
   ((with_reducible apply rq1); rfl; rfl)
   exact AD (by rw [Cl hh])
 replace q5 := Decidable.not_not.1 q5
 by_cases q6 : ¬ 0 ≤ g.many
 · have hh : ¬ IE g := fun h => by obtain ⟨_, _, _, _, _, _, _⟩ := h; omega
   repeat' (first
    | exact True.intro | refine AM ?_ | refine two ?_ ?_
    | (refine imp fun hc => ?_) <;> try exact cx hc
    | refine all fun v_ => ?_)
   refine AO (VS.drop (List.nil_sublist _)) ?_
   ((with_reducible apply rq1); rfl; rfl)
   exact AD (by rw [Cl hh])
 replace q6 := Decidable.not_not.1 q6
 by_cases q7 : ¬ g.many ≤ 6
 · have hh : ¬ IE g := fun h => by obtain ⟨_, _, _, _, _, _, _⟩ := h; omega
   repeat' (first
    | exact True.intro | refine AM ?_ | refine two ?_ ?_
    | (refine imp fun hc => ?_) <;> try exact cx hc
    | refine all fun v_ => ?_)
   refine AO (VS.drop (List.nil_sublist _)) ?_
   ((with_reducible apply rq1); rfl; rfl)
   exact AD (by rw [Cl hh])
 replace q7 := Decidable.not_not.1 q7
 have hh : IE g := ⟨q1, q2, q3, q4, q5, q6, q7⟩
 have hp := dF g.many.toNat (by omega)
 have hp2 : Aj (1 * 2 ^ g.many.toNat) := by unfold Aj; omega
 repeat' (first
  | exact True.intro | refine AM ?_ | refine two ?_ ?_
  | (refine imp fun hc => ?_) <;> try exact cx hc
  | refine all fun v_ => ?_)
 refine AL (X := Nat) (fun i => [(1, .val (.pointer (some ⟨v_, 0, none⟩))), (3, .int g.spots.length), (49, .d (D9 g.next)), (50, .int g.next.length), (51, .int i)]) (fun _ => [.cells v_ 99 [.d (AN g.spots), .int g.init, .d (D9 g.next), .d (AP g.sets), .int g.many]]) (fun i => i ≤ g.spots.length ∧ ∀ j, j < i → Zg g j) (fun i => g.spots.length - i) 0 ⟨Nat.zero_le _, fun _ h => by omega⟩ (VS.of_le ?_) ?_
 · exact leD
 rintro i ⟨h1, h2⟩
 by_cases hi : ¬ i < g.spots.length
 · repeat' (first
    | exact True.intro | refine AM ?_ | refine two ?_ ?_
    | (refine imp fun hc => ?_) <;> try exact cx hc
    | refine all fun v_ => ?_)
   refine AO (VS.drop (List.nil_sublist _)) ?_
   ((with_reducible apply rq1); rfl; rfl)
   exact AD (by rw [J1 ⟨hh, fun j hj => h2 j (by omega)⟩])
 replace hi := Decidable.not_not.1 hi
 repeat' (first
  | exact True.intro | refine AM ?_ | refine two ?_ ?_
  | (refine imp fun hc => ?_) <;> try exact cx hc
  | refine all fun v_ => ?_)
 refine AL (X := Nat) (fun j => [(1, .val (.pointer (some ⟨v_, 0, none⟩))), (3, .int g.spots.length), (4, .int i), (49, .d (D9 g.next)), (50, .int g.next.length), (51, .int i), (56, .d (AP (g.next[i]'(by omega)))), (57, .int (g.next[i]'(by omega)).length), (58, .int j)]) (fun _ => [.cells v_ 99 [.d (AN g.spots), .int g.init, .d (D9 g.next), .d (AP g.sets), .int g.many]]) (fun j => j ≤ (g.next[i]'(by omega)).length ∧ ∀ (m : Nat) (hm : m < (g.next[i]'(by omega)).length), m < j → 0 ≤ (g.next[i]'(by omega))[m] ∧ (g.next[i]'(by omega))[m] < g.spots.length) (fun j => (g.next[i]'(by omega)).length - j) 0 ⟨Nat.zero_le _, fun _ _ h => by omega⟩ (VS.of_le ?_) ?_
 · exact leD
 rintro j ⟨h3, h4⟩
 have hli : i < g.next.length := by omega
 have hsi : i < g.sets.length := by omega
 have hlj := hN (g.next[i]'(by omega)) (List.getElem_mem _)
 by_cases hj : j < (g.next[i]'(by omega)).length
 · repeat' (first
    | exact True.intro | refine AM ?_ | refine two ?_ ?_
    | (refine imp fun hc => ?_) <;> try exact cx hc
    | refine all fun v_ => ?_)
   all_goals first
    | (refine AO (VS.drop (List.nil_sublist _)) ?_
       ((with_reducible apply rq1); rfl; rfl)
       exact AD (by rw [Kj hi (fun h => by have := h.1 hli _ (List.getElem_mem hj); omega)]))
    | (refine ⟨j + 1, ⟨by omega, fun m hm hmj => ?_⟩, by omega, VS.of_le ?_⟩
       · by_cases e : m = j
         · subst e; omega
         · exact h4 m hm (by omega)
       · exact leD)
 have hall : ∀ k ∈ (g.next[i]'(by omega)), 0 ≤ k ∧ k < g.spots.length := fun k hk => by
  obtain ⟨m, hm, rfl⟩ := List.getElem_of_mem hk
  exact h4 m hm (by omega)
 repeat' (first
  | exact True.intro | refine AM ?_ | refine two ?_ ?_
  | (refine imp fun hc => ?_) <;> try exact cx hc
  | refine all fun v_ => ?_)
 all_goals first
  | (refine AO (VS.drop (List.nil_sublist _)) ?_
     ((with_reducible apply rq1); rfl; rfl)
     exact AD (by rw [Kj hi (fun h => by have := h.2 hsi; omega)]))
  | (refine ⟨i + 1, ⟨by omega, fun m hm => ?_⟩, by omega, VS.of_le ?_⟩
     · by_cases e : m = i
       · subst e; exact ⟨fun _ => hall, fun _ => by omega⟩
       · exact h2 m (by omega)
     · exact leD)
end Go.Proofs.YtajnpfgelpkijaaGreatDoor
