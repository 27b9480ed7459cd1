/- A bundle of this claim's own texts: V2 G20 E10. -/
import Derived.Test.YtibahljljjkceaaGreatDoorA1
import Derived.Test.YtibahljljjkceaaGreatDoorA5
import Derived.Test.YtibahljljjkceaaGreatDoorA23
import Derived.Test.YtibahljljjkceaaGreatDoorA31
import Derived.Test.YtibahljljjkceaaGreatDoorA36
set_option linter.unusedVariables false
set_option linter.unusedSimpArgs false
set_option maxRecDepth 100000
set_option maxHeartbeats 4000000
namespace Go.Proofs.YtibahljljjkceaaGreatDoor
open Go Go.Av Go.Sp

theorem CM : Cal Tryz.prog 122 := Cal.of Tryz.func122 (by kernel_rfl) (by kernel_rfl)
theorem MQ : Cal Tryz.prog 75 := Cal.of Tryz.func75 (by kernel_rfl) (by kernel_rfl)
theorem N0 : Cal Tryz.prog 90 := Cal.of Tryz.func90 (by kernel_rfl) (by kernel_rfl)
theorem MY : Cal Tryz.prog 138 := Cal.of Tryz.func138 (by kernel_rfl) (by kernel_rfl)
abbrev gnA (g : Gn) : AV := .agg [.d (AO g.spots), .int g.init, .d (As g.next), .d (AT g.sets), .int g.many]
theorem HN (g : Gn) : grA g.gr = gnA g := by
 unfold grA gnA Gn.gr
 rw [FX, U0]
theorem Dr (G : List (Nat × List D)) (g : Gn) (fr : List Nat) (hnl : g.next.length = g.spots.length) (hto : ∀ i, ∀ k ∈ g.nx i, k < g.spots.length) (hfr : ∀ j ∈ fr, j < g.spots.length) (hsz : g.spots.length ≤ 20000) :
 ACr Tryz.prog G 122 [gnA g, .d (AT fr)] (.d (Ai (DT g.nx g.spots.length fr))) := by
 refine AC.factN (g := JT) (f := F0) (xss := g.next) 1 8 (fun _ => rfl) (.agg (.there (.there .here))) fun hN => ?_
 refine AC.factI (f := F0) (xs := fr) (.there .here) fun hfl => ?_
 refine AN (ts := [4]) Tryz.f122.ntmps Tryz.func122 rfl rfl rfl (by simp [Tryz.ntmps122]) fun W I => ?_
 repeat' (first
  | exact True.intro | refine AR ?_ | refine two ?_ ?_
  | (refine imp fun hc => ?_) <;> try exact cx hc
  | refine all fun v_ => ?_)
 rename_i bg
 refine AG (X := List Int × Nat) (fun y => [(1, .d (AT fr)), (2, .val (.pointer (some ⟨bg, 0, none⟩))), (5, .val (.slice (some ⟨v_, 0, none⟩) g.spots.length g.spots.length)), (6, .int y.2)]) (fun y => [.cells v_ 3 (y.1.map AV.int), .cells bg 62 [.d (AO g.spots), .int g.init, .d (As g.next), .d (AT g.sets), .int g.many]]) (fun y => y.2 ≤ fr.length ∧ y.1.length = g.spots.length ∧ (∀ v, gi y.1 v = 0 ∨ gi y.1 v = 1) ∧ (∀ v, gi y.1 v ≠ 0 → v ∈ fr) ∧ ∀ (m : Nat) (hm : m < fr.length), m < y.2 → gi y.1 fr[m] ≠ 0) (fun y => fr.length - y.2) (List.replicate g.spots.length 0, 0) ⟨Nat.zero_le _, by simp, fun v => .inl (Ge _ _), fun v h => absurd (Ge _ _) h, fun _ _ h => by omega⟩ (VS.of_le ?_) ?_
 · exact leD
 rintro ⟨st, i⟩ ⟨h1, h2, h3, h4, h5⟩
 dsimp only at h1 h2 h3 h4 h5 ⊢
 by_cases hi : i < fr.length
 · have hk := hfr fr[i] (List.getElem_mem hi)
   repeat' (first
    | exact True.intro | refine AR ?_ | refine two ?_ ?_
    | (refine imp fun hc => ?_) <;> try exact cx hc
    | refine all fun v_ => ?_)
   refine ⟨(st.set fr[i] 1, i + 1), ⟨by dsimp only; omega, by simp [h2], fun v => ?_, fun v hv => ?_, fun m hm hmi => ?_⟩, by dsimp only; omega, VS.of_le ?_⟩
   · rw [Bd _ _ _ _ (by omega)]; split
     · exact .inr rfl
     · exact h3 v
   · dsimp only at hv
     rw [Bd _ _ _ _ (by omega)] at hv
     by_cases e : v = fr[i]
     · rw [e]; exact List.getElem_mem hi
     · rw [if_neg e] at hv; exact h4 v hv
   · dsimp only at hmi ⊢
     rw [Bd _ _ _ _ (by omega)]; split
     · decide
     · rename_i hne
       exact h5 m hm (by
        have : m ≠ i := fun e => hne (by subst e; rfl)
        omega)
   · exact leD
 have hF : FI g.nx g.spots.length fr none st := ⟨h2, fun v => by rcases h3 v with h | h; exact .inl h; exact .inr (.inl h), fun v hv => ⟨v, h4 v hv, .refl v⟩, fun v hv => by
  obtain ⟨m, hm, rfl⟩ := List.getElem_of_mem hv
  exact h5 m hm (by omega), fun v hv => by rcases h3 v with h | h <;> omega⟩
 repeat' (first
  | exact True.intro | refine AR ?_ | refine two ?_ ?_
  | (refine imp fun hc => ?_) <;> try exact cx hc
  | refine all fun v_ => ?_)
 refine AG (X := List Int × Bool) (fun y => [(2, .val (.pointer (some ⟨bg, 0, none⟩))), (5, .val (.slice (some ⟨v_, 0, none⟩) g.spots.length g.spots.length)), (7, .bool y.2)]) (fun y => [.cells v_ 3 (y.1.map AV.int), .cells bg 62 [.d (AO g.spots), .int g.init, .d (As g.next), .d (AT g.sets), .int g.many]]) (fun y => FI g.nx g.spots.length fr none y.1 ∧ (y.2 = false → ∀ i, i < g.spots.length → gi y.1 i ≠ 1)) (fun y => 2 * HJ y.1 + (if y.2 then 1 else 0)) (st, true) ⟨hF, fun h => by cases h⟩ (VS.of_le ?_) ?_
 · exact leD
 clear hF h1 h2 h3 h4 h5 hi
 rintro ⟨st, ag⟩ ⟨k1, k2⟩
 dsimp only at k1 k2 ⊢
 have hl := k1.len
 cases ag with
 | false =>
   repeat' (first
    | exact True.intro | refine AR ?_ | refine two ?_ ?_
    | (refine imp fun hc => ?_) <;> try exact cx hc
    | refine all fun v_ => ?_)
   refine C4 (E := 4) (sz := 1) Dq ?_
   refine D8 (X := Nat × Sl) (fun y => [(5, .val (.slice (some ⟨v_, 0, none⟩) g.spots.length g.spots.length)), (10, .val y.2.v), (11, .int y.1)]) (fun y => [AM y.2.v 4 1 Dq ((st.map fun s => decide (0 < s)).take y.1), .cells v_ 3 (st.map AV.int), .cells bg 62 [.d (AO g.spots), .int g.init, .d (As g.next), .d (AT g.sets), .int g.many]]) (fun y => y.1 ≤ st.length) (fun y => st.length - y.1) (0, Sl.nil) (Nat.zero_le _) ?_ rfl ?_
   · exact leD
   rintro ⟨i, q⟩ h1
   dsimp only at h1 ⊢
   have hlen : ((st.map fun s => decide (0 < s)).take i).length = i := by rw [List.length_take, List.length_map]; omega
   by_cases hi : i < st.length
   · repeat' (first
      | exact True.intro | refine AR ?_ | refine two ?_ ?_
      | (refine imp fun hc => ?_) <;> try exact cx hc
      | refine all fun v_ => ?_)
     refine ⟨(i + 1, v_), by dsimp only; omega, by dsimp only; omega, ?_, ?_⟩
     · exact leD
     · dsimp only
       rw [List.take_succ_eq_append_getElem (by rw [List.length_map]; exact hi), List.getElem_map]
   · repeat' (first
      | exact True.intro | refine AR ?_ | refine two ?_ ?_
      | (refine imp fun hc => ?_) <;> try exact cx hc
      | refine all fun v_ => ?_)
     refine AH (VS.trans (VS.drop (h' := [AM q.v 4 1 Dq ((st.map fun s => decide (0 < s)).take i)]) (by exact Hs)) (Bf (t := 4) (eb := 1) rfl rfl (fun x => rfl) (by omega))) ?_
     ((with_reducible apply rq1); rfl; rfl)
     refine AA ?_
     rw [List.take_of_length_le (by rw [List.length_map]; omega), k1.all (k2 rfl) hto]
 | true =>
   repeat' (first
    | exact True.intro | refine AR ?_ | refine two ?_ ?_
    | (refine imp fun hc => ?_) <;> try exact cx hc
    | refine all fun v_ => ?_)
   refine AG (X := List Int × Bool × Nat) (fun y => [(2, .val (.pointer (some ⟨bg, 0, none⟩))), (5, .val (.slice (some ⟨v_, 0, none⟩) g.spots.length g.spots.length)), (7, .bool y.2.1), (8, .int y.2.2)]) (fun y => [.cells v_ 3 (y.1.map AV.int), .cells bg 62 [.d (AO g.spots), .int g.init, .d (As g.next), .d (AT g.sets), .int g.many]]) (fun y => FI g.nx g.spots.length fr none y.1 ∧ y.2.2 ≤ g.spots.length ∧ (y.2.1 = false → y.1 = st ∧ ∀ j, j < y.2.2 → gi st j ≠ 1) ∧ (y.2.1 = true → HJ y.1 < HJ st)) (fun y => g.spots.length - y.2.2) (st, false, 0) ⟨k1, Nat.zero_le _, fun _ => ⟨rfl, fun j h => absurd h (Nat.not_lt_zero j)⟩, fun h => (by cases h)⟩ (VS.of_le ?_) ?_
   · exact leD
   rintro ⟨s1, a1, i⟩ ⟨q1, q2, q3, q4⟩
   dsimp only at q1 q2 q3 q4 ⊢
   have hl1 := q1.len
   by_cases hi : ¬ i < g.spots.length
   · repeat' (first
      | exact True.intro | refine AR ?_ | refine two ?_ ?_
      | (refine imp fun hc => ?_) <;> try exact cx hc
      | refine all fun v_ => ?_)
     refine ⟨(s1, a1), ⟨q1, fun h j hj => ?_⟩, ?_, VS.of_le ?_⟩
     · obtain ⟨e1, e2⟩ := q3 h
       rw [e1]; exact e2 j (by omega)
     · dsimp only
       cases a1 with
       | false => rw [(q3 rfl).1]; simp
       | true => have := q4 rfl; simp; omega
     · exact leD
   replace hi := Decidable.not_not.1 hi
   have hgi : gi s1 i = s1[i]'(by omega) := Bo _ _ _
   by_cases h1 : ¬ gi s1 i = 1
   · have h1' : ¬ s1[i]'(by omega) = 1 := by rw [← hgi]; exact h1
     repeat' (first
      | exact True.intro | refine AR ?_ | refine two ?_ ?_
      | (refine imp fun hc => ?_) <;> try exact cx hc
      | refine all fun v_ => ?_)
     refine ⟨(s1, a1, i + 1), ⟨q1, by dsimp only; omega, fun h => ⟨(q3 h).1, fun j hj => ?_⟩, q4⟩, by dsimp only; omega, VS.of_le ?_⟩
     · by_cases e : j = i
       · rw [e, ← (q3 h).1]; exact h1
       · exact (q3 h).2 j (by dsimp only at hj; omega)
     · exact leD
   replace h1 := Decidable.not_not.1 h1
   have h1' : s1[i]'(by omega) = 1 := by rw [← hgi]; exact h1
   have hn2 := Mi s1 i (by omega) (by rw [h1']; decide)
   have hsl : (s1.set i 2).length = g.spots.length := by simp [hl1]
   have hle2 : HJ s1 ≤ HJ st := by
    cases a1 with
    | false => rw [(q3 rfl).1]; exact Nat.le_refl _
    | true => exact Nat.le_of_lt (q4 rfl)
   repeat' (first
    | exact True.intro | refine AR ?_ | refine two ?_ ?_
    | (refine imp fun hc => ?_) <;> try exact cx hc
    | refine all fun v_ => ?_)
   refine AG (X := List Int × Nat) (fun y => [(2, .val (.pointer (some ⟨bg, 0, none⟩))), (5, .val (.slice (some ⟨v_, 0, none⟩) g.spots.length g.spots.length)), (7, .bool true), (8, .int i), (9, .int y.2)]) (fun y => [.cells v_ 3 (y.1.map AV.int), .cells bg 62 [.d (AO g.spots), .int g.init, .d (As g.next), .d (AT g.sets), .int g.many]]) (fun y => FI g.nx g.spots.length fr (some (i, y.2)) y.1 ∧ gi y.1 i = 2 ∧ HJ y.1 = HJ (s1.set i 2) ∧ y.2 ≤ (g.nx i).length) (fun y => (g.nx i).length - y.2) (s1.set i 2, 0) ⟨q1.take h1, by rw [Bd _ _ _ _ (by omega), if_pos rfl], rfl, Nat.zero_le _⟩ (VS.of_le ?_) ?_
   · exact leD
   rintro ⟨s2, j⟩ ⟨r1, r2, r3, r4⟩
   dsimp only at r1 r2 r3 r4 ⊢
   have hl2 := r1.len
   have hnx := g.nx_get i (by omega)
   have hlj := hN (g.next[i]'(by omega)) (List.getElem_mem _)
   rw [hnx] at r4
   by_cases hj : j < (g.next[i]'(by omega)).length
   · have hj' : j < (g.nx i).length := by rw [hnx]; exact hj
     have hkk := hto i _ (List.getElem_mem hj')
     have hm := r1.mark hto r2 hj'
     have hke : (g.nx i)[j] = (g.next[i]'(by omega))[j] := by simp only [hnx]
     rw [hke] at hm hkk
     have hgk : gi s2 ((g.next[i]'(by omega))[j]) = s2[(g.next[i]'(by omega))[j]]'(by omega) := Bo _ _ _
     by_cases h0 : s2[(g.next[i]'(by omega))[j]]'(by omega) = 0
     · have em : D2 s2 ((g.next[i]'(by omega))[j]) = s2.set ((g.next[i]'(by omega))[j]) 1 := by rw [D2, hgk, if_pos h0]
       rw [em] at hm
       repeat' (first
        | exact True.intro | refine AR ?_ | refine two ?_ ?_
        | (refine imp fun hc => ?_) <;> try exact cx hc
        | refine all fun v_ => ?_)
       refine ⟨(s2.set ((g.next[i]'(by omega))[j]) 1, j + 1), ⟨hm.1, hm.2.1, hm.2.2.trans r3, by dsimp only; rw [hnx]; omega⟩, by dsimp only; rw [hnx]; omega, VS.of_le ?_⟩
       exact leD
     · have em : D2 s2 ((g.next[i]'(by omega))[j]) = s2 := by rw [D2, hgk, if_neg h0]
       rw [em] at hm
       repeat' (first
        | exact True.intro | refine AR ?_ | refine two ?_ ?_
        | (refine imp fun hc => ?_) <;> try exact cx hc
        | refine all fun v_ => ?_)
       refine ⟨(s2, j + 1), ⟨hm.1, hm.2.1, r3, by dsimp only; rw [hnx]; omega⟩, by dsimp only; rw [hnx]; omega, VS.of_le ?_⟩
       exact leD
   · have ej : j = (g.nx i).length := by rw [hnx]; omega
     rw [ej] at r1
     repeat' (first
      | exact True.intro | refine AR ?_ | refine two ?_ ?_
      | (refine imp fun hc => ?_) <;> try exact cx hc
      | refine all fun v_ => ?_)
     refine ⟨(s2, true, i + 1), ⟨r1.done, by dsimp only; omega, fun h => (by cases h), fun _ => by dsimp only; omega⟩, by dsimp only; omega, VS.of_le ?_⟩
     exact leD
theorem S9 (G : List (Nat × List D)) (g : Gr) : ACr Tryz.prog G 75 [grA g] (.tup [.d (Ai (Di g).1), .int (Di g).2]) := by
 refine AN (ts := [2, 3]) Tryz.f75.ntmps Tryz.func75 rfl rfl rfl (by simp [Tryz.ntmps75]) fun W I => ?_
 have E := LP G g
 by_cases hk : ¬ okG g
 · have e : Gu g = 9 := if_neg hk
   rw [e] at E
   repeat' (first
    | refine ca BX (E) ?_
    | refine ca CM (Dr _ _ _ hok.next (fun i => g.nx_lt hok i) (by assumption) hok.size) ?_
    | exact True.intro | refine AR ?_ | refine two ?_ ?_
    | (refine imp fun hc => ?_) <;> try exact cx hc
    | refine all fun v_ => ?_)
   refine AH (VS.trans (VS.drop (List.nil_sublist _)) (Cn (t := 2) 1 1 rfl)) ?_
   ((with_reducible apply rq2); rfl; rfl; rfl)
   exact AA (by rw [I6 hk]; rfl)
 obtain ⟨g, rfl, hok⟩ := Fy (Decidable.not_not.1 hk)
 rw [Ez (Gn.ok_gr hok)] at E
 rw [HN] at E ⊢
 clear hk
 repeat' (first
  | refine ca BX (E) ?_
  | refine ca CM (Dr _ _ _ hok.next (fun i => g.nx_lt hok i) (by assumption) hok.size) ?_
  | exact True.intro | refine AR ?_ | refine two ?_ ?_
  | (refine imp fun hc => ?_) <;> try exact cx hc
  | refine all fun v_ => ?_)
 rename Nat => bg
 have hb := hok.init
 have hs := hok.size
 refine C4 (E := 3) (sz := 1) F0 ?_
 refine D8 (X := Nat × Sl) (fun y => [(1, .val (.pointer (some ⟨bg, 0, none⟩))), (5, .val y.2.v), (6, .int y.1)]) (fun y => [AM y.2.v 3 1 F0 (List.range y.1), .cells bg 62 [.d (AO g.spots), .int g.init, .d (As g.next), .d (AT g.sets), .int g.many]]) (fun y => y.1 ≤ g.init) (fun y => g.init - y.1) (0, Sl.nil) (Nat.zero_le _) ?_ rfl ?_
 · exact leD
 rintro ⟨i, q⟩ h1
 dsimp only at h1 ⊢
 by_cases hi : i < g.init
 · repeat' (first
    | refine ca BX (E) ?_
    | refine ca CM (Dr _ _ _ hok.next (fun i => g.nx_lt hok i) (by assumption) hok.size) ?_
    | exact True.intro | refine AR ?_ | refine two ?_ ?_
    | (refine imp fun hc => ?_) <;> try exact cx hc
    | refine all fun v_ => ?_)
   refine ⟨(i + 1, v_), by dsimp only; omega, by dsimp only; omega, ?_, ?_⟩
   · exact leD
   · dsimp only
     rw [List.range_succ]
 obtain rfl : i = g.init := by omega
 have hfr : ∀ j ∈ List.range g.init, j < g.spots.length := fun j hj => by have := List.mem_range.1 hj; have := hok.init; omega
 refine Ho (Gj (h1 := []) (h' := [_]) 8 rfl rfl (fun _ => rfl) (by rw [List.length_range]; omega) (CvE.cons (t := 5) rfl .here (CvE.refl _ _ _)) (CvH.refl _)) ?_
 repeat' (first
  | refine ca BX (E) ?_
  | refine ca CM (Dr _ _ _ hok.next (fun i => g.nx_lt hok i) (by assumption) hok.size) ?_
  | exact True.intro | refine AR ?_ | refine two ?_ ?_
  | (refine imp fun hc => ?_) <;> try exact cx hc
  | refine all fun v_ => ?_)
 refine AH (VS.drop (List.nil_sublist _)) ?_
 ((with_reducible apply rq2); rfl; rfl; rfl)
 exact AA (by rw [Ej hok, Qh])
end Go.Proofs.YtibahljljjkceaaGreatDoor
namespace Go.Sp
open Go Go.Av

inductive MB (nx : Nat → List Nat) (fr : List Nat) (ins : Nat → Bool) : Nat → Prop where
 | base {k : Nat} (h : k ∈ fr) : MB nx fr ins k
 | step {j k : Nat} (h : MB nx fr ins j) (e : k ∈ nx j) (hi : ins k = true) : MB nx fr ins k
def CF (nx : Nat → List Nat) (ins : Nat → Bool) : List Nat → Prop
 | [] => True
 | [_] => True
 | a :: b :: l => (b ∈ nx a ∧ ins b = true) ∧ CF nx ins (b :: l)
structure ID (nx : Nat → List Nat) (n : Nat) (fr : List Nat) (ins wnt : Nat → Bool) (l : List Nat) : Prop where
 ne : l ≠ []
 head : ∀ a, l.head? = some a → a ∈ fr
 chain : CF nx ins l
 last : ∀ a, l.getLast? = some a → wnt a = true
 lt : ∀ a ∈ l, a < n
def SZ (nx : Nat → List Nat) (n : Nat) (fr : List Nat) (ins wnt : Nat → Bool) (l : List Nat) : Prop :=
 ID nx n fr ins wnt l ∨ (l = [] ∧ ∀ v, MB nx fr ins v → wnt v = false)
structure WI (nx : Nat → List Nat) (n : Nat) (fr : List Nat) (ins : Nat → Bool) (ps : List (Int × Int)) : Prop where
 nodup : (ps.map (·.1)).Nodup
 key : ∀ (j : Nat) (h : j < ps.length), ∃ k : Nat, ps[j].1 = k ∧ k < n ∧ ((ps[j].2 = -1 ∧ k ∈ fr) ∨ ∃ (i : Nat) (hi : i < j) (p : Nat), (ps[i]'(Nat.lt_trans hi h)).1 = p ∧ ps[j].2 = p ∧ k ∈ nx p ∧ ins k = true)
theorem WI.nil (nx : Nat → List Nat) (n : Nat) (fr : List Nat) (ins : Nat → Bool) : WI nx n fr ins [] := ⟨List.nodup_nil, fun j h => (by simp at h)⟩
variable {nx : Nat → List Nat} {n : Nat} {fr : List Nat} {ins wnt : Nat → Bool} {ps : List (Int × Int)}
theorem WI.add (w : WI nx n fr ins ps) {k : Nat} {v : Int} (hno : getM ps (k : Int) = none) (hk : k < n) (hv : (v = -1 ∧ k ∈ fr) ∨ ∃ (i : Nat) (hi : i < ps.length) (p : Nat), ps[i].1 = p ∧ v = p ∧ k ∈ nx p ∧ ins k = true) : WI nx n fr ins (ps ++ [((k : Int), v)]) := by
 refine ⟨?_, fun j h => ?_⟩
 · rw [List.map_append, List.nodup_append]
   refine ⟨w.nodup, by simp, fun a ha b hb e => ?_⟩
   obtain ⟨p, hp, rfl⟩ := List.mem_map.1 ha
   simp at hb
   exact (getM_none.1 hno) p hp (e.trans hb)
 · by_cases hj : j < ps.length
   · obtain ⟨k', h1, h2, h3⟩ := w.key j hj
     refine ⟨k', by rw [List.getElem_append_left hj]; exact h1, h2, ?_⟩
     rw [List.getElem_append_left hj]
     rcases h3 with h3 | ⟨i, hi, p, e1, e2, e3⟩
     · exact .inl h3
     · exact .inr ⟨i, hi, p, by rw [List.getElem_append_left (by omega)]; exact e1, e2, e3⟩
   · obtain rfl : j = ps.length := by simp at h; omega
     refine ⟨k, by simp, hk, ?_⟩
     rw [List.getElem_append_right (Nat.le_refl _)]
     simp only [Nat.sub_self, List.getElem_cons_zero]
     rcases hv with hv | ⟨i, hi, p, e1, e2, e3⟩
     · exact .inl hv
     · exact .inr ⟨i, hi, p, by rw [List.getElem_append_left hi]; exact e1, e2, e3⟩
theorem WI.len (w : WI nx n fr ins ps) : ps.length ≤ n := by
 have key : ∀ (m : Nat) (xs : List Int), xs.Nodup → (∀ x ∈ xs, 0 ≤ x ∧ x < (m : Int)) → xs.length ≤ m := by
  intro m
  induction m with
  | zero =>
    intro xs _ h
    cases xs with
    | nil => exact Nat.le_refl _
    | cons x _ => have := h x List.mem_cons_self; omega
  | succ m ih =>
    intro xs hn h
    have i1 := ih (xs.erase m) (hn.erase _) fun x hx => by
     have h1 := h x (List.mem_of_mem_erase hx)
     have h2 : x ≠ m := fun e => by subst e; exact (List.Nodup.not_mem_erase hn) hx
     omega
    have := List.length_erase (a := (m : Int)) (l := xs)
    split at this <;> omega
 have := key n (ps.map (·.1)) w.nodup fun x hx => by
  obtain ⟨p, hp, rfl⟩ := List.mem_map.1 hx
  obtain ⟨j, hj, rfl⟩ := List.getElem_of_mem hp
  obtain ⟨k, h1, h2, _⟩ := w.key j hj
  omega
 rwa [List.length_map] at this
def isKey (ps : List (Int × Int)) (k : Nat) : Prop := getM ps (k : Int) ≠ none
theorem GL {k : Nat} : isKey ps k ↔ ∃ (j : Nat) (h : j < ps.length), ps[j].1 = k := by
 unfold isKey
 rw [Ne, getM_none]
 constructor
 · intro h
   obtain ⟨p, h⟩ := Classical.not_forall.1 h
   obtain ⟨hp, h⟩ := Classical.not_imp.1 h
   obtain ⟨j, hj, rfl⟩ := List.getElem_of_mem hp
   exact ⟨j, hj, Decidable.not_not.1 h⟩
 · rintro ⟨j, hj, e⟩ h
   exact h _ (List.getElem_mem hj) e
theorem SY {k k' : Nat} {v : Int} : isKey (ps ++ [((k : Int), v)]) k' ↔ isKey ps k' ∨ k' = k := by
 rw [GL, GL]
 constructor
 · rintro ⟨j, hj, e⟩
   by_cases h : j < ps.length
   · rw [List.getElem_append_left h] at e; exact .inl ⟨j, h, e⟩
   · obtain rfl : j = ps.length := by simp at hj; omega
     rw [List.getElem_append_right (Nat.le_refl _)] at e
     simp at e
     exact .inr (by omega)
 · rintro (⟨j, hj, e⟩ | rfl)
   · exact ⟨j, by simp; omega, by rw [List.getElem_append_left hj]; exact e⟩
   · exact ⟨ps.length, by simp, by simp⟩
structure WS (nx : Nat → List Nat) (n : Nat) (fr : List Nat) (ins wnt : Nat → Bool) (ps : List (Int × Int)) (td : List Int) (x : Option (Nat × Nat)) : Prop where
 wi : WI nx n fr ins ps
 first : ∀ k ∈ fr, isKey ps k
 todo : ∀ y ∈ td, ∃ k : Nat, y = k ∧ isKey ps k
 un : ∀ k, isKey ps k → wnt k = false
 cl : ∀ k, isKey ps k → (k : Int) ∉ td → (∀ m, x ≠ some (k, m)) → ∀ y ∈ nx k, ins y = true → isKey ps y
 part : ∀ k m, x = some (k, m) → isKey ps k ∧ ∀ y ∈ (nx k).take m, ins y = true → isKey ps y
theorem WS.noway (s : WS nx n fr ins wnt ps [] none) : ∀ v, MB nx fr ins v → wnt v = false := fun v hv => by
 refine s.un v ?_
 induction hv with
 | base h => exact s.first _ h
 | step _ e hi ih => exact s.cl _ ih (by simp) (fun m => by simp) _ e hi
theorem WS.pop {i : Nat} {td : List Int} (s : WS nx n fr ins wnt ps ((i : Int) :: td) none) : WS nx n fr ins wnt ps td (some (i, 0)) := by
 refine ⟨s.wi, s.first, fun y hy => s.todo y (List.mem_cons_of_mem _ hy), s.un, fun k hk hn hx y hy hi => ?_, fun k m e => ?_⟩
 · refine s.cl k hk (fun h => ?_) (fun m => by simp) y hy hi
   rcases List.mem_cons.1 h with h | h
   · exact hx 0 (by congr 2; omega)
   · exact hn h
 · cases e
   obtain ⟨k, e, hk⟩ := s.todo _ List.mem_cons_self
   obtain rfl : i = k := by omega
   exact ⟨hk, fun y hy => by simp at hy⟩
theorem WS.skip {i m : Nat} {td : List Int} (s : WS nx n fr ins wnt ps td (some (i, m))) (h : m < (nx i).length) (ho : isKey ps (nx i)[m] ∨ ins (nx i)[m] = false) : WS nx n fr ins wnt ps td (some (i, m + 1)) := by
 obtain ⟨p1, p2⟩ := s.part i m rfl
 refine ⟨s.wi, s.first, s.todo, s.un, fun k hk hn hx => s.cl k hk hn fun m' e => ?_, fun k m' e => ?_⟩
 · cases e; exact hx _ rfl
 · cases e
   refine ⟨p1, fun y hy hi => ?_⟩
   rw [List.take_succ_eq_append_getElem h] at hy
   rcases List.mem_append.1 hy with hy | hy
   · exact p2 y hy hi
   · rw [List.mem_singleton.1 hy] at hi ⊢
     rcases ho with ho | ho
     · exact ho
     · rw [ho] at hi; cases hi
theorem WS.meet {i m : Nat} {td : List Int} (s : WS nx n fr ins wnt ps td (some (i, m))) (hn : ∀ i, ∀ k ∈ nx i, k < n) (h : m < (nx i).length) (hno : getM ps ((nx i)[m] : Int) = none) (hi : ins (nx i)[m] = true) (hw : wnt (nx i)[m] = false) : WS nx n fr ins wnt (ps ++ [(((nx i)[m] : Int), (i : Int))]) (td ++ [((nx i)[m] : Int)]) (some (i, m + 1)) := by
 obtain ⟨p1, p2⟩ := s.part i m rfl
 obtain ⟨j, hj, e1⟩ := GL.1 p1
 have hk : ∀ k, isKey (ps ++ [(((nx i)[m] : Int), (i : Int))]) k ↔ isKey ps k ∨ k = (nx i)[m] := fun k => SY
 refine ⟨s.wi.add hno (hn i _ (List.getElem_mem h)) (.inr ⟨j, hj, i, e1, rfl, List.getElem_mem h, hi⟩), fun k hfr => (hk k).2 (.inl (s.first k hfr)), fun y hy => ?_, fun k hk' => ?_, fun k hk' hnt hx y hy hiy => ?_, fun k m' e => ?_⟩
 · rcases List.mem_append.1 hy with hy | hy
   · obtain ⟨k, e, h⟩ := s.todo y hy
     exact ⟨k, e, (hk k).2 (.inl h)⟩
   · exact ⟨_, List.mem_singleton.1 hy, (hk _).2 (.inr rfl)⟩
 · rcases (hk k).1 hk' with h | rfl
   · exact s.un k h
   · exact hw
 · rcases (hk k).1 hk' with hkp | rfl
   · exact (hk y).2 (.inl (s.cl k hkp (fun h => hnt (List.mem_append_left _ h)) (fun m' e => hx _ (by cases e; rfl)) y hy hiy))
   · exact absurd (List.mem_append_right td (List.mem_singleton.2 rfl)) hnt
 · cases e
   refine ⟨(hk i).2 (.inl p1), fun y hy hiy => ?_⟩
   rw [List.take_succ_eq_append_getElem h] at hy
   rcases List.mem_append.1 hy with hy | hy
   · exact (hk y).2 (.inl (p2 y hy hiy))
   · exact (hk y).2 (.inr (List.mem_singleton.1 hy))
theorem WS.done {i : Nat} {td : List Int} (s : WS nx n fr ins wnt ps td (some (i, (nx i).length))) : WS nx n fr ins wnt ps td none := by
 obtain ⟨p1, p2⟩ := s.part i _ rfl
 rw [List.take_length] at p2
 refine ⟨s.wi, s.first, s.todo, s.un, fun k hk hn _ y hy hi => ?_, fun k m e => by cases e⟩
 by_cases e : k = i
 · subst e; exact p2 y hy hi
 · exact s.cl k hk hn (fun m h => e (by cases h; rfl)) y hy hi
def kAt (ps : List (Int × Int)) (p : Nat) : Int := if p = 0 then -1 else ((ps[p - 1]?).map (·.1)).getD 0
theorem VH (ps : List (Int × Int)) : kAt ps 0 = -1 := rfl
theorem JG (ps : List (Int × Int)) (j : Nat) (h : j < ps.length) : kAt ps (j + 1) = ps[j].1 := by
 unfold kAt; rw [if_neg (by omega), Nat.add_sub_cancel, List.getElem?_eq_getElem h]; rfl
structure Bk (nx : Nat → List Nat) (n : Nat) (fr : List Nat) (ins wnt : Nat → Bool) (ps : List (Int × Int)) (p : Nat) (l : List Nat) : Prop where
 le : p ≤ ps.length
 more : 0 < p → ∀ k : Nat, kAt ps p = k → CF nx ins (k :: l) ∧ ∀ a, (k :: l).getLast? = some a → wnt a = true
 lt : ∀ a ∈ l, a < n
 fin : p = 0 → ID nx n fr ins wnt l
theorem YG (w : (ps.map (·.1)).Nodup) (j : Nat) (h : j < ps.length) : getM ps ps[j].1 = some ps[j].2 := by
 induction ps generalizing j with
 | nil => simp at h
 | cons q ps ih =>
   cases j with
   | zero => simp [getM]
   | succ j =>
     rw [List.map_cons, List.nodup_cons] at w
     have hne : ¬ q.1 = (ps[j]'(by simpa using h)).1 := fun e => w.1 (e ▸ List.mem_map.2 ⟨_, List.getElem_mem (by simpa using h), rfl⟩)
     have := ih w.2 j (by simpa using h)
     simp only [List.getElem_cons_succ]
     rw [← this]
     simp [getM, hne]
theorem Bk.step {j : Nat} {l : List Nat} (w : WI nx n fr ins ps) (b : Bk nx n fr ins wnt ps (j + 1) l) : ∃ k : Nat, ∃ p : Nat, kAt ps (j + 1) = k ∧ getM ps (k : Int) = some (kAt ps p) ∧ p ≤ j ∧ Bk nx n fr ins wnt ps p (k :: l) := by
 have hj : j < ps.length := b.le
 obtain ⟨k, h1, h2, h3⟩ := w.key j hj
 have hk := JG ps j hj
 have hg := YG w.nodup j hj
 rw [h1] at hg hk
 obtain ⟨c1, c2⟩ := b.more (by omega) k hk
 have hlt : ∀ a ∈ k :: l, a < n := fun a ha => by
  rcases List.mem_cons.1 ha with rfl | ha
  · exact h2
  · exact b.lt a ha
 rcases h3 with ⟨e, hfr⟩ | ⟨i, hi, p, e1, e2, e3, e4⟩
 · refine ⟨k, 0, hk, by rw [hg, e]; rfl, Nat.zero_le _, Nat.zero_le _, fun h => absurd h (by omega), hlt, fun _ => ⟨by simp, fun a ha => ?_, c1, c2, hlt⟩⟩
   simp at ha; subst ha; exact hfr
 · have hkp := JG ps i (by omega)
   rw [e1] at hkp
   refine ⟨k, i + 1, hk, by rw [hg, e2, hkp], by omega, by omega, fun _ k' hk' => ?_, hlt, fun h => absurd h (by omega)⟩
   obtain rfl : p = k' := by omega
   exact ⟨⟨⟨e3, e4⟩, c1⟩, fun a ha => c2 a (by rwa [List.getLast?_cons_cons] at ha)⟩
theorem Bk.start {j k : Nat} (w : WI nx n fr ins ps) (hj : j < ps.length) (hk : ps[j].1 = k) (hw : wnt k = true) : Bk nx n fr ins wnt ps (j + 1) [] := by
 refine ⟨hj, fun _ k' hk' => ?_, fun a ha => (by cases ha), fun h => absurd h (by omega)⟩
 rw [JG ps j hj, hk] at hk'
 obtain rfl : k = k' := by omega
 exact ⟨trivial, fun a ha => by simp at ha; subst ha; exact hw⟩
theorem WS.start (hn : fr.Nodup) (hlt : ∀ k ∈ fr, k < n) (hw : ∀ k ∈ fr, wnt k = false) : WS nx n fr ins wnt (fr.map fun k : Nat => ((k : Int), (-1 : Int))) (fr.map fun k : Nat => (k : Int)) none := by
 have hk : ∀ k, isKey (fr.map fun k : Nat => ((k : Int), (-1 : Int))) k ↔ k ∈ fr := fun k => by
  rw [GL]
  constructor
  · rintro ⟨j, hj, e⟩
    rw [List.getElem_map] at e
    have hj' : j < fr.length := by simpa using hj
    have : fr[j] = k := by dsimp only at e; omega
    rw [← this]; exact List.getElem_mem hj'
  · intro h
    obtain ⟨j, hj, rfl⟩ := List.getElem_of_mem h
    exact ⟨j, by simpa using hj, by rw [List.getElem_map]⟩
 refine ⟨⟨?_, fun j h => ?_⟩, fun k h => (hk k).2 h, fun y hy => ?_, fun k h => hw k ((hk k).1 h), fun k h hno => ?_, fun k m e => by cases e⟩
 · rw [List.map_map]
   exact List.Pairwise.map _ (fun a b h e => h (by dsimp only [Function.comp] at e; omega)) hn
 · have hj' : j < fr.length := by simpa using h
   refine ⟨fr[j], by rw [List.getElem_map], hlt _ (List.getElem_mem hj'), .inl ⟨by rw [List.getElem_map], List.getElem_mem hj'⟩⟩
 · obtain ⟨k, hkm, rfl⟩ := List.mem_map.1 hy
   exact ⟨k, rfl, (hk k).2 hkm⟩
 · exact absurd (List.mem_map.2 ⟨k, (hk k).1 h, rfl⟩) hno
theorem SZ.one {k : Nat} (h : k ∈ fr) (hk : k < n) (hw : wnt k = true) : SZ nx n fr ins wnt [k] :=
 .inl ⟨by simp, fun a ha => by simp at ha; subst ha; exact h, trivial, fun a ha => by simp at ha; subst ha; exact hw, fun a ha => by rw [List.mem_singleton.1 ha]; exact hk⟩
end Go.Sp
namespace Go.Av
open Go Go.Instr

structure Qu where
 g : Nat
 off : Nat
 c : Nat
 pre : List AV
 post : List AV
abbrev Qu.v (q : Qu) (n : Nat) : Value := .slice (some ⟨q.g, q.off, none⟩) n q.c
abbrev quE (E : TypeId) (q : Qu) (xs : List Int) : Ent := .cells q.g E (q.pre ++ xs.map AV.int ++ q.post)
structure Qu.Ok (q : Qu) (n : Nat) : Prop where
 pre : q.pre.length = q.off
 lo : n ≤ q.c
 hi : q.c ≤ n + q.post.length
def Qu.tl (q : Qu) (x : Int) : Qu := if q.c = 1 then ⟨q.g, q.off, 0, q.pre, .int x :: q.post⟩ else ⟨q.g, q.off + 1, q.c - 1, q.pre ++ [.int x], q.post⟩
theorem ZP (E : TypeId) (q : Qu) (x : Int) (t : List Int) (ok : q.Ok (t.length + 1)) : quE E (q.tl x) t = quE E q (x :: t) := by
 unfold Qu.tl
 by_cases h : q.c = 1
 · have h1 := ok.lo
   obtain rfl : t = [] := List.length_eq_zero_iff.1 (by omega)
   rw [if_pos h]; simp [quE]
 · rw [if_neg h]; simp [quE]
theorem Qu.Ok.tl {q : Qu} {x : Int} {n : Nat} (ok : q.Ok (n + 1)) : (q.tl x).Ok n := by
 obtain ⟨h1, h2, h3⟩ := ok
 unfold Qu.tl
 by_cases h : q.c = 1
 · rw [if_pos h]; exact ⟨h1, by dsimp only; omega, by simp⟩
 · rw [if_neg h]; exact ⟨by simp [h1], by dsimp only; omega, by dsimp only; omega⟩
theorem Xn (q : Qu) (x : Int) (t : List Int) (ok : q.Ok (t.length + 1)) : (q.pre ++ (x :: t).map AV.int ++ q.post)[q.off]? = some (.int x) := by
 rw [← ok.pre, List.append_assoc, List.getElem?_append_right (Nat.le_refl _), Nat.sub_self]; rfl
section
variable {P : Program} {G : List (Nat × List D)} {ρ : Env} {h : H} {dst : Option Tmp} {ty : TypeId} {pos : String} {after : Array Edge} {g : Option (Nat × Bool)}
theorem VK {T E : TypeId} {x lo : Operand} {q : Qu} {n : Nat} {z : Value} {eb : Nat} (a : Int) (hx : evO ρ x = some (.val (q.v (n + 1)))) (hlo : evO ρ lo = some (.int 1)) (hT : P.underlying T = some (.slice E)) (hE : El P E z 1 eb) (ok : q.Ok (n + 1)) :
 Pure P G ⟨dst, .slice T x (some lo) none none, ty, pos, after, g⟩ ρ h (.val ((q.tl a).v n)) :=
 Am fun w I _ ac k => by
  have e1 := AP (k.ev x) (AF hx)
  have e2 := AP (k.ev lo) (AF hlo)
  obtain ⟨i, hi, _, hsz, _⟩ := hE.get
  refine ⟨_, rfl, fun w' => ?_⟩
  have hlo := ok.lo
  unfold Qu.tl
  by_cases hc : q.c = 1
  · obtain rfl : n = 0 := by omega
    rw [if_pos hc]
    simp [execOp, e1, e2, hc, Instr.sliceAt, run_underlying hT, Instr.slice, Instr.sliceBounds, Instr.sliceBound, asIntOf, sizeOf, typeInfo, hi, hsz]
  · rw [if_neg hc]
    have h1 : ¬ ((q.c : Int) - 1 = 0) := by omega
    have h2 : (1 : Int) ≤ n + 1 := by omega
    have h3 : ((n : Int) + 1) ≤ q.c := by omega
    simp [execOp, e1, e2, hc, Instr.sliceAt, run_underlying hT, Instr.slice, Instr.sliceBounds, Instr.sliceBound, asIntOf, sizeOf, typeInfo, hi, hsz, Addr.add_lit]
    intro hh; omega
theorem Tv {T E : TypeId} {x y : Operand} {q : Qu} {n : Nat} {z : Value} {eb : Nat} (hx : evO ρ x = some (.val (q.v n))) (hy : evO ρ y = some (.int 0)) (hT : P.underlying T = some (.slice E)) (hE : El P E z 1 eb) (h1 : 0 < n) :
 Pure P G ⟨dst, .indexAddr T x y, ty, pos, after, g⟩ ρ h (.val (.pointer (some ⟨q.g, q.off, none⟩))) :=
 Am fun w I _ ac k => by
  have e1 := AP (k.ev x) (AF hx)
  have e2 := AP (k.ev y) (AF hy)
  obtain ⟨i, hi, _, hsz, _⟩ := hE.get
  refine ⟨_, rfl, fun w' => ?_⟩
  have h2 : (0 : Int) < n := by omega
  simp [execOp, e1, e2, Instr.indexAt, run_underlying hT, asIntOf, h2, h1, sizeOf, typeInfo, hi, hsz, Addr.add_lit]
end
section
variable {k : Kx} {Q : Exit → Env → H → Prop} {ρ : Env} {h h' : H} {ops : Array Oper} {l : List Oper} {d : Nat} {ty : TypeId} {pos : String} {after : Array Edge}
theorem X8 {x : Code} {q : Sl} {xs : List Int} {E : TypeId} {h1 h2 : H} (hn : 0 < xs.length) (hj : ∀ q' : Qu, q'.Ok xs.length → q.v = q'.v xs.length → J k x Q ρ (h1 ++ quE E q' xs :: h2)) : J k x Q ρ (h1 ++ AM q.v E 1 Sp.AW xs :: h2) := by
 intro I a w k1 k2 k3
 obtain ⟨g, cap, cur, rfl, hg, hnc, hcm, hcs, hrel⟩ := Ent.row_form (k1.ent (AM q.v E 1 Sp.AW xs) (by simp)) hn
 rw [Nat.mul_one] at hcs hrel
 have hmap : ((xs.map Sp.AW).flatten).map D.av = xs.map AV.int := by
  clear hn hnc hrel k1 hj
  induction xs with
  | nil => rfl
  | cons x xs ih => simp only [List.map_cons, List.flatten_cons, List.map_append, ih]; rfl
 rw [hmap] at hrel
 let q' : Qu := ⟨g, 0, cap, [], (cur.toList.drop xs.length).map AV.val⟩
 have hok : q'.Ok xs.length := ⟨rfl, hnc, by
  show cap ≤ xs.length + ((cur.toList.drop xs.length).map AV.val).length
  have ecl : cur.toList.length = cap := hcs
  rw [List.length_map, List.length_drop, ecl]; omega⟩
 have he : Ent.rel w I (quE E q' xs) := by
  refine ⟨cur, hg, ?_⟩
  have := AV.rels_append hrel (ED w I (cur.toList.drop xs.length))
  rw [List.take_append_drop] at this
  exact this
 exact hj q' hok rfl I a w (k1.reent (e := AM (Sl.v ⟨some ⟨g, 0, none⟩, xs.length, cap⟩) E 1 Sp.AW xs) (e' := quE E q' xs) rfl he) k2 k3
theorem Rr {T E : TypeId} {x y : Operand} {z : Value} {eb eb' : Nat} {q : Qu} {n : Nat} {xs : List Int} {kk : Int} {H' : Qu → H} (hx : evO ρ x = some (.val (q.v n))) (hy : evO ρ y = some (.d (.l 1 eb' [[.i .i64 kk]]))) (hT : k.P.underlying T = some (.slice E)) (he : El k.P E z 1 eb) (hz : z.cells.size = 1) (hn : n = xs.length)
 (ok : q.Ok n) (hd : Nat.blt d k.n = true) (hb : (n + 1) * eb ≤ 140737488355328) (hm : n + 1 ≤ 140737488355328)
 (hu : ∀ q', Upd (quE E q xs) (quE E q' (xs ++ [kk])) h (H' q')) (hj : All fun q' : Qu => Imp (q'.Ok (n + 1)) (JL k ops l Q ((d, .val (q'.v (n + 1))) :: ρ) (H' q'))) :
 JL k ops (⟨some d, .call { callee := .builtin .append, args := #[x, y], argTypes := #[T, T] }, ty, pos, after, none⟩ :: l) Q ρ h := by
 subst hn
 obtain ⟨i, hi, hz0, hz1, hz2⟩ := he.get
 refine Ed rfl (fun t ht => by cases ht; exact blt hd) fun I a w k1 k2 => ?_
 have e1 : a.eval x = q.v xs.length := AP (k2.ev x) (AF hx)
 have e2 := BY (k2.ev y) (AF hy)
 have hmem : quE E q xs ∈ h := by obtain ⟨h1, h2, e, _⟩ := (hu q).split; rw [e]; simp
 obtain ⟨cs, hc1, hc2⟩ := k1.ent _ hmem
 have hcl : cs.toList.length = q.off + xs.length + q.post.length := by
  rw [(AV.rels_length hc2).symm, List.length_append, List.length_append, List.length_map, ok.pre]
 have hpl : (q.pre ++ xs.map AV.int).length = q.off + xs.length := by rw [List.length_append, List.length_map, ok.pre]
 rcases Rel.cells_of (by decide) e2 with ⟨e3, e4⟩ | ⟨ad, cap, us, e3, hl, hc, h1c, hrel⟩
 · cases e4
 obtain ⟨u, rfl⟩ : ∃ u, us = [u] := List.length_eq_one_iff.1 hl
 obtain rfl : u = .int .i64 kk := hrel.1
 have hlo := ok.lo
 have hhi := ok.hi
 by_cases hroom : xs.length + 1 ≤ q.c
 · obtain ⟨p, ps, hps⟩ : ∃ p ps, q.post = p :: ps := by
    cases hq : q.post with
    | nil => rw [hq] at hhi; simp at hhi; omega
    | cons p ps => exact ⟨p, ps, rfl⟩
   let q' : Qu := ⟨q.g, q.off, q.c, q.pre, ps⟩
   have hq' : q'.Ok (xs.length + 1) := ⟨ok.pre, hroom, by rw [hps, List.length_cons] at hhi; show q.c ≤ xs.length + 1 + ps.length; omega⟩
   obtain ⟨h1, h2, eh, eH⟩ := (hu q').split
   have hj' := (hj.get q').get hq'
   rw [eH] at hj'
   rw [eh] at k1
   have hst := run_storeCells_at k.P q.g (q.off + xs.length) E [.int .i64 kk] 0 cs w hc1 (by rw [hps, List.length_cons] at hcl; simp only [Array.length_toList] at hcl; simp only [List.length_singleton]; omega) h1c
   simp only [Nat.add_zero, List.length_singleton] at hst
   have hkeep := fun (y : Nat) (hy : y ≠ q.g) => setRow_other w q.g y (cs.toList.take (q.off + xs.length) ++ [Value.int .i64 kk] ++ cs.toList.drop (q.off + xs.length + 1)).toArray hy
   have hb : blks (h1 ++ quE E q xs :: h2) = blks h1 ++ q.g :: blks h2 := by simp [blks, Ent.blk]
   have hI : ∀ z, I z → z ≠ q.g := fun z hz e => by subst e; exact (k1.imm _ hz).2 (by rw [hb]; simp)
   have hre : Ent.rel (w.setRow q.g (cs.toList.take (q.off + xs.length) ++ [Value.int .i64 kk] ++ cs.toList.drop (q.off + xs.length + 1)).toArray) I (quE E q' (xs ++ [kk])) := by
    refine ⟨_, setRow_heap w q.g cs _ E (0, 0) hc1, ?_⟩
    have m : ∀ {ys : List AV} {us : List Value}, AV.rels w I ys us → AV.rels (w.setRow q.g (cs.toList.take (q.off + xs.length) ++ [Value.int .i64 kk] ++ cs.toList.drop (q.off + xs.length + 1)).toArray) I ys us := fun h => AV.rels_mono (fun y hy => hkeep y (hI y hy)) (fun _ h => h) h
    have t1 := DK (q.off + xs.length) hc2
    have t2 := FB (q.off + xs.length + 1) hc2
    rw [List.take_append_of_le_length (by omega), List.take_of_length_le (by omega)] at t1
    rw [hps, show q.off + xs.length + 1 = (q.pre ++ xs.map AV.int).length + 1 by rw [hpl], List.drop_append, List.drop_of_length_le (by omega), List.nil_append, show (q.pre ++ xs.map AV.int).length + 1 - (q.pre ++ xs.map AV.int).length = 1 by omega, List.drop_succ_cons, List.drop_zero, hpl] at t2
    have e : q'.pre ++ (xs ++ [kk]).map AV.int ++ q'.post = (q.pre ++ xs.map AV.int) ++ [AV.int kk] ++ ps := by simp [q']
    rw [e]
    exact AV.rels_append (AV.rels_append (m t1) ⟨rfl, trivial⟩) (m t2)
   obtain ⟨m1, m2⟩ := k1.write (e := quE E q xs) (e' := quE E q' (xs ++ [kk])) (b := q.g) (w' := w.setRow q.g _) rfl rfl rfl rfl rfl (by simp) hkeep hre
   refine ⟨.slice (some ⟨q.g, q.off, none⟩) (xs.length + 1) q.c, _, I, .val (q'.v (xs.length + 1)), _, ?_, m1, k2.mono m2 (fun _ h => h), rfl, hj'⟩
   have hf : (Builtin.firstCells 1 1 (.slice (some ad) 1 cap)).run k.P w = .ok [Value.int .i64 kk].toArray w := run_firstCells_some (P := k.P) w 1 1 ad 1 cap [.int .i64 kk] rfl hc
   have e3' : a.eval y = .slice (some ad) 1 cap := e3
   simp [execOp, resolve, invoke, builtin, e1, e3', Builtin.append_, run_underlying hT, sizeOf, typeInfo, hi, Builtin.lenOf, hroom, hz1, hf, Addr.add_lit, hst]
 · have holds : ∀ j u, (xs.map (Value.int .i64))[j]? = some u → w.cell? ((⟨q.g, q.off, none⟩ : Addr).add j) = some u := fun j u hu => by
    rw [Addr.add_lit, cell_of_row w q.g (q.off + j) cs E (0, 0) hc1]
    have hj : j < xs.length := by
     have := (List.getElem?_eq_some_iff.1 hu).1
     simpa using this
    obtain ⟨v, h1, h2⟩ := AV.rels_get hc2 (q.off + j) (.int xs[j]) (by
     rw [List.getElem?_append_left (by omega), List.getElem?_append_right (by rw [ok.pre]; omega), ok.pre, Nat.add_sub_cancel_left, List.getElem?_map, List.getElem?_eq_getElem hj]; rfl)
    rw [List.getElem?_map, List.getElem?_eq_getElem hj] at hu
    cases hu
    obtain rfl : v = .int .i64 xs[j] := h2
    simpa using h1
   have e3' : a.eval y = .slice (some ad) 1 cap := e3
   have hr := run_append_grow (P := k.P) w T ty E i z hT hi hz0 ⟨q.g, q.off, none⟩ xs.length q.c (xs.map (Value.int .i64)) (by rw [hz1]; simp) holds ad 1 cap [.int .i64 kk] (by rw [hz1]; rfl) hc (by omega) (by omega) (growslice_fits (by omega) (by rw [hz2]; exact hb))
   generalize hzc : Builtin.zeroCells z.cells (grownCap w (xs.length + 1) q.c E - (xs.length + 1)) = zc at hr
   have hge := grownCap_ge w (xs.length + 1) q.c E
   have hzs : zc.size = grownCap w (xs.length + 1) q.c E - (xs.length + 1) := by rw [← hzc, size_zeroCells, hz, Nat.mul_one]
   generalize grownCap w (xs.length + 1) q.c E = cp at hr hge hzs
   obtain ⟨O, hO⟩ : ∃ O, O = Obj.cells ((xs.map (Value.int .i64)).toArray ++ [Value.int .i64 kk].toArray ++ zc) E := ⟨_, rfl⟩
   rw [← hO] at hr
   let q' : Qu := ⟨w.heap.size, 0, cp, [], zc.toList.map AV.val⟩
   have hq' : q'.Ok (xs.length + 1) := ⟨rfl, hge, by
    have ezc : zc.toList.length = cp - (xs.length + 1) := hzs
    show cp ≤ xs.length + 1 + (zc.toList.map AV.val).length
    rw [List.length_map, ezc]; omega⟩
   obtain ⟨h1, h2, eh, eH⟩ := (hu q').split
   have hj' := (hj.get q').get hq'
   rw [eH] at hj'
   rw [eh] at k1
   have hdr : F5 I (h1 ++ quE E q xs :: h2) w w.drew := ⟨rfl, rfl, rfl, Nat.le_refl _, fun _ _ => rfl⟩
   have kd := k1.same hdr
   have sd := k2.same k1 hdr
   have hmapv : ∀ l : List Int, l.map AV.int = (l.map (Value.int .i64)).map AV.val := fun l => by rw [List.map_map]; rfl
   have hre : Ent.rel (w.drew.alloc O) I (quE E q' (xs ++ [kk])) := by
    rw [hO]
    refine ⟨_, heap_alloc_new w.drew _, ?_⟩
    have e : q'.pre ++ (xs ++ [kk]).map AV.int ++ q'.post = ((xs.map (Value.int .i64)) ++ [Value.int .i64 kk] ++ zc.toList).map AV.val := by simp [q', hmapv]
    rw [e]
    have := ED (w.drew.alloc (Obj.cells ((xs.map (Value.int .i64)).toArray ++ [Value.int .i64 kk].toArray ++ zc) E)) I ((xs.map (Value.int .i64)) ++ [Value.int .i64 kk] ++ zc.toList)
    simpa using this
   have kf := kd.fresh O (quE E q' (xs ++ [kk])) rfl hre
   have sf := sd.fresh kd O
   have hp : (quE E q' (xs ++ [kk]) :: (h1 ++ quE E q xs :: h2)).Perm (quE E q xs :: (h1 ++ quE E q' (xs ++ [kk]) :: h2)) := by
    refine (List.Perm.cons _ List.perm_middle).trans ((List.Perm.swap _ _ _).trans (List.Perm.cons _ List.perm_middle.symm))
   obtain ⟨I', m1, m2⟩ := VS.trans (VS.perm (ρ := ρ) hp) (VS.drop (List.sublist_cons_self _ _)) _ _ _ _ _ kf sf
   exact ⟨_, _, I', .val (q'.v (xs.length + 1)), _, by simp [execOp, resolve, invoke, builtin, e1, e3', hr]; exact ⟨⟨rfl, rfl⟩, rfl⟩, m1, m2, rfl, hj'⟩
end
section
variable {P : Program} {G : List (Nat × List D)} {ρ : Env} {h : H} {dst : Option Tmp} {ty : TypeId} {pos : String} {after : Array Edge} {g : Option (Nat × Bool)}
theorem GO {α β : Type} [DecidableEq α] {kd : TypeDesc} {kv : α → Value} {vv : β → Value} (K : Jj kd kv) {T KT ET : TypeId} {x y : Operand} {b : Nat} {ps : List (α × β)} {a : α} {z : Value} {sz eb : Nat}
 (hx : evO ρ x = some (.val (.map (some b)))) (hy : evO ρ y = some (.val (kv a))) (hT : P.underlying T = some (.map KT ET)) (hK : P.underlying KT = some kd) (hE : El P ET z sz eb) (hm : Ent.raw b (BE (Af kv vv ps)) ∈ h) (hg : getM ps a = none) :
 Pure P G ⟨dst, .lookup T x y true, ty, pos, after, g⟩ ρ h (.tup [.val z, .bool false]) := by
 have := Lr (G := G) (dst := dst) (ty := ty) (pos := pos) (after := after) (g := g) K hx hy hT hK hE hm
 rw [hg] at this; exact this
theorem GR {α β : Type} [DecidableEq α] {kd : TypeDesc} {kv : α → Value} {vv : β → Value} (K : Jj kd kv) {T KT ET : TypeId} {x y : Operand} {b : Nat} {ps : List (α × β)} {a : α} {c : β} {z : Value} {sz eb : Nat}
 (hx : evO ρ x = some (.val (.map (some b)))) (hy : evO ρ y = some (.val (kv a))) (hT : P.underlying T = some (.map KT ET)) (hK : P.underlying KT = some kd) (hE : El P ET z sz eb) (hm : Ent.raw b (BE (Af kv vv ps)) ∈ h) (hg : getM ps a = some c) :
 Pure P G ⟨dst, .lookup T x y true, ty, pos, after, g⟩ ρ h (.tup [.val (vv c), .bool true]) := by
 have := Lr (G := G) (dst := dst) (ty := ty) (pos := pos) (after := after) (g := g) K hx hy hT hK hE hm
 rw [hg] at this; exact this
end
section
variable {k : Kx} {Q : Exit → Env → H → Prop} {ρ : Env} {h h' : H} {ops : Array Oper} {l : List Oper} {d : Nat} {ty : TypeId} {pos : String} {after : Array Edge}
theorem SN {T E : TypeId} {x : Operand} {a : Int} {z : Value} {eb : Nat} (h0 : evO ρ x = some (.int a)) (hT : k.P.underlying T = some (.slice E)) (he : El k.P E z 1 eb)
 (hd : Nat.blt d k.n = true) (hj : All fun q : Sl => JL k ops l Q ((d, .val q.v) :: ρ) (AM q.v E 1 Sp.AW [a] :: h)) : JL k ops (⟨some d, .buildSlice T 1 #[(0, x)], ty, pos, after, none⟩ :: l) Q ρ h := by
 refine Pm (f := Sp.AW) (ys := [a]) (xs := [x]) hT he (by decide) (by simp) rfl ?_ ?_ (fun _ => rfl) (by simp) hd ⟨fun v => Lw (h1 := []) rfl fun q e => by subst e; exact hj.get q⟩
 · simp only [List.map_cons, List.map_nil, AF h0]; rfl
 · intro x hx
   simp only [List.mem_cons, List.not_mem_nil, or_false] at hx
   rw [hx, AF h0]; rfl
end
end Go.Av
