/- A bundle of this claim's own texts: V1b. -/
import Derived.Test.YtibahljljjkceaaGreatDoorA33
set_option linter.unusedVariables false
set_option linter.unusedSimpArgs false
set_option maxRecDepth 100000
set_option maxHeartbeats 4000000
namespace Go.Proofs.YtibahljljjkceaaGreatDoor
open Go Go.Av Go.Sp
theorem LP (G : List (Nat × List D)) (g : Gr) : ACr Tryz.prog G 120 [grA g] (.int (Gu g)) := by
 refine AC.factN (g := EX) (f := AW) (xss := g.next) 1 8 (fun _ => rfl) (.agg (.there (.there .here))) fun hN => ?_
 refine AN (ts := [2]) Tryz.f120.ntmps Tryz.func120 rfl rfl rfl (by simp [Tryz.ntmps120]) fun W I => ?_
 by_cases q1 : ¬ g.spots.length ≤ 20000
 · have hh : ¬ D4 g := fun h => by obtain ⟨_, _, _, _, _, _, _⟩ := h; omega
   repeat' (first
    | refine ca AL (In _ _ _ _) ?_
    | exact True.intro | refine AR ?_ | refine two ?_ ?_
    | (refine imp fun hc => ?_) <;> try exact cx hc
    | refine all fun v_ => ?_)
   refine AH (VS.drop (List.nil_sublist _)) ?_
   ((with_reducible apply rq1); rfl; rfl)
   exact AA (by rw [BV hh])
 replace q1 := Decidable.not_not.1 q1
 by_cases q2 : ¬ g.next.length = g.spots.length
 · have hh : ¬ D4 g := fun h => by obtain ⟨_, _, _, _, _, _, _⟩ := h; omega
   repeat' (first
    | refine ca AL (In _ _ _ _) ?_
    | exact True.intro | refine AR ?_ | refine two ?_ ?_
    | (refine imp fun hc => ?_) <;> try exact cx hc
    | refine all fun v_ => ?_)
   refine AH (VS.drop (List.nil_sublist _)) ?_
   ((with_reducible apply rq1); rfl; rfl)
   exact AA (by rw [BV hh])
 replace q2 := Decidable.not_not.1 q2
 by_cases q3 : ¬ g.sets.length = g.spots.length
 · have hh : ¬ D4 g := fun h => by obtain ⟨_, _, _, _, _, _, _⟩ := h; omega
   repeat' (first
    | refine ca AL (In _ _ _ _) ?_
    | exact True.intro | refine AR ?_ | refine two ?_ ?_
    | (refine imp fun hc => ?_) <;> try exact cx hc
    | refine all fun v_ => ?_)
   refine AH (VS.drop (List.nil_sublist _)) ?_
   ((with_reducible apply rq1); rfl; rfl)
   exact AA (by rw [BV hh])
 replace q3 := Decidable.not_not.1 q3
 by_cases q4 : ¬ 0 ≤ g.init
 · have hh : ¬ D4 g := fun h => by obtain ⟨_, _, _, _, _, _, _⟩ := h; omega
   repeat' (first
    | refine ca AL (In _ _ _ _) ?_
    | exact True.intro | refine AR ?_ | refine two ?_ ?_
    | (refine imp fun hc => ?_) <;> try exact cx hc
    | refine all fun v_ => ?_)
   refine AH (VS.drop (List.nil_sublist _)) ?_
   ((with_reducible apply rq1); rfl; rfl)
   exact AA (by rw [BV hh])
 replace q4 := Decidable.not_not.1 q4
 by_cases q5 : ¬ g.init ≤ g.spots.length
 · have hh : ¬ D4 g := fun h => by obtain ⟨_, _, _, _, _, _, _⟩ := h; omega
   repeat' (first
    | refine ca AL (In _ _ _ _) ?_
    | exact True.intro | refine AR ?_ | refine two ?_ ?_
    | (refine imp fun hc => ?_) <;> try exact cx hc
    | refine all fun v_ => ?_)
   refine AH (VS.drop (List.nil_sublist _)) ?_
   ((with_reducible apply rq1); rfl; rfl)
   exact AA (by rw [BV hh])
 replace q5 := Decidable.not_not.1 q5
 by_cases q6 : ¬ 0 ≤ g.many
 · have hh : ¬ D4 g := fun h => by obtain ⟨_, _, _, _, _, _, _⟩ := h; omega
   repeat' (first
    | refine ca AL (In _ _ _ _) ?_
    | exact True.intro | refine AR ?_ | refine two ?_ ?_
    | (refine imp fun hc => ?_) <;> try exact cx hc
    | refine all fun v_ => ?_)
   refine AH (VS.drop (List.nil_sublist _)) ?_
   ((with_reducible apply rq1); rfl; rfl)
   exact AA (by rw [BV hh])
 replace q6 := Decidable.not_not.1 q6
 by_cases q7 : ¬ g.many ≤ 6
 · have hh : ¬ D4 g := fun h => by obtain ⟨_, _, _, _, _, _, _⟩ := h; omega
   repeat' (first
    | refine ca AL (In _ _ _ _) ?_
    | exact True.intro | refine AR ?_ | refine two ?_ ?_
    | (refine imp fun hc => ?_) <;> try exact cx hc
    | refine all fun v_ => ?_)
   refine AH (VS.drop (List.nil_sublist _)) ?_
   ((with_reducible apply rq1); rfl; rfl)
   exact AA (by rw [BV hh])
 replace q7 := Decidable.not_not.1 q7
 have hh : D4 g := ⟨q1, q2, q3, q4, q5, q6, q7⟩
 repeat' (first
  | refine ca AL (In _ _ _ _) ?_
  | exact True.intro | refine AR ?_ | refine two ?_ ?_
  | (refine imp fun hc => ?_) <;> try exact cx hc
  | refine all fun v_ => ?_)
 refine AG (X := Nat × Int) (fun y => [(1, .val (.pointer (some ⟨v_, 0, none⟩))), (3, .int g.spots.length), (4, .int y.2), (5, .int y.1)]) (fun _ => [.cells v_ 62 [.d (AO g.spots), .int g.init, .d (Cd g.next), .d (AK g.sets), .int g.many]]) (fun y => (y.1 : Int) ≤ g.many ∧ y.2 = 2 ^ y.1) (fun y => g.many.toNat - y.1) (0, 1) ⟨by dsimp only; omega, rfl⟩ (VS.of_le ?_) ?_
 · exact leD
 rintro ⟨n, p⟩ ⟨n1, n2⟩
 dsimp only at n1 n2 ⊢
 have hp := Ma n (by omega)
 by_cases hn : (n : Int) < g.many
 · have hp' := Ma (n + 1) (by omega)
   rw [Int.pow_succ] at hp'
   repeat' (first
    | refine ca AL (In _ _ _ _) ?_
    | exact True.intro | refine AR ?_ | refine two ?_ ?_
    | (refine imp fun hc => ?_) <;> try exact cx hc
    | refine all fun v_ => ?_)
   refine ⟨(n + 1, p * 2), ⟨by dsimp only; omega, by dsimp only; rw [Int.pow_succ, n2]⟩, by dsimp only; omega, VS.of_le ?_⟩
   exact leD
 obtain rfl : n = g.many.toNat := by omega
 repeat' (first
  | refine ca AL (In _ _ _ _) ?_
  | exact True.intro | refine AR ?_ | refine two ?_ ?_
  | (refine imp fun hc => ?_) <;> try exact cx hc
  | refine all fun v_ => ?_)
 refine AG (X := Nat) (fun i => [(1, .val (.pointer (some ⟨v_, 0, none⟩))), (3, .int g.spots.length), (4, .int p), (6, .int i)]) (fun _ => [.cells v_ 62 [.d (AO g.spots), .int g.init, .d (Cd g.next), .d (AK g.sets), .int g.many]]) (fun i => i ≤ g.spots.length ∧ ∀ j, j < i → SJ g j) (fun i => g.spots.length - i) 0 ⟨Nat.zero_le _, fun _ h => by omega⟩ (VS.of_le ?_) ?_
 · exact leD
 rintro i ⟨h1, h2⟩
 by_cases hi : ¬ i < g.spots.length
 · repeat' (first
    | refine ca AL (In _ _ _ _) ?_
    | exact True.intro | refine AR ?_ | refine two ?_ ?_
    | (refine imp fun hc => ?_) <;> try exact cx hc
    | refine all fun v_ => ?_)
   refine AH (VS.drop (List.nil_sublist _)) ?_
   ((with_reducible apply rq1); rfl; rfl)
   exact AA (by rw [Ez ⟨hh, fun j hj => h2 j (by omega)⟩])
 replace hi := Decidable.not_not.1 hi
 have hli : i < g.next.length := by omega
 have hsi : i < g.sets.length := by omega
 have hlj := hN (g.next[i]'(by omega)) (List.getElem_mem _)
 by_cases hs : ¬ (0 ≤ g.sets[i] ∧ g.sets[i] ≤ p - 1)
 · repeat' (first
    | refine ca AL (In _ _ _ _) ?_
    | exact True.intro | refine AR ?_ | refine two ?_ ?_
    | (refine imp fun hc => ?_) <;> try exact cx hc
    | refine all fun v_ => ?_)
   refine AH (VS.drop (List.nil_sublist _)) ?_
   ((with_reducible apply rq1); rfl; rfl)
   exact AA (by rw [Fx hi (fun h => by have := h.2 hsi; omega)])
 replace hs := Decidable.not_not.1 hs
 repeat' (first
  | refine ca AL (In _ _ _ _) ?_
  | exact True.intro | refine AR ?_ | refine two ?_ ?_
  | (refine imp fun hc => ?_) <;> try exact cx hc
  | refine all fun v_ => ?_)
 refine AG (X := Nat) (fun j => [(1, .val (.pointer (some ⟨v_, 0, none⟩))), (3, .int g.spots.length), (4, .int p), (6, .int i), (7, .int j)]) (fun _ => [.cells v_ 62 [.d (AO g.spots), .int g.init, .d (Cd g.next), .d (AK g.sets), .int g.many]]) (fun j => j ≤ (g.next[i]'(by omega)).length ∧ ∀ (m : Nat) (hm : m < (g.next[i]'(by omega)).length), m < j → 0 ≤ (g.next[i]'(by omega))[m] ∧ (g.next[i]'(by omega))[m] < g.spots.length) (fun j => (g.next[i]'(by omega)).length - j) 0 ⟨Nat.zero_le _, fun _ _ h => by omega⟩ (VS.of_le ?_) ?_
 · exact leD
 rintro j ⟨h3, h4⟩
 by_cases hj : j < (g.next[i]'(by omega)).length
 · repeat' (first
    | refine ca AL (In _ _ _ _) ?_
    | exact True.intro | refine AR ?_ | refine two ?_ ?_
    | (refine imp fun hc => ?_) <;> try exact cx hc
    | refine all fun v_ => ?_)
   all_goals first
    | (refine AH (VS.drop (List.nil_sublist _)) ?_
       ((with_reducible apply rq1); rfl; rfl)
       exact AA (by rw [Fx hi (fun h => by have := h.1 hli _ (List.getElem_mem hj); omega)]))
    | (refine ⟨j + 1, ⟨by omega, fun m hm hmj => ?_⟩, by omega, VS.of_le ?_⟩
       · by_cases e : m = j
         · subst e; omega
         · exact h4 m hm (by omega)
       · exact leD)
 have hall : ∀ k ∈ (g.next[i]'(by omega)), 0 ≤ k ∧ k < g.spots.length := fun k hk => by
  obtain ⟨m, hm, rfl⟩ := List.getElem_of_mem hk
  exact h4 m hm (by omega)
 repeat' (first
  | refine ca AL (In _ _ _ _) ?_
  | exact True.intro | refine AR ?_ | refine two ?_ ?_
  | (refine imp fun hc => ?_) <;> try exact cx hc
  | refine all fun v_ => ?_)
 refine ⟨i + 1, ⟨by omega, fun m hm => ?_⟩, by omega, VS.of_le ?_⟩
 · by_cases e : m = i
   · subst e; exact ⟨fun _ => hall, fun _ => by omega⟩
   · exact h2 m (by omega)
 · exact leD
end Go.Proofs.YtibahljljjkceaaGreatDoor
