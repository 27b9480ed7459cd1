/-
  PLAIN, NO PROGRAM: fair parts of a graph: both ways to find them (over G1).
-/
import Derived.Test.YtffdlpjbbkhcnaaG1
import Derived.Test.YtffdlpjbbkhcnaaE3
namespace Go.Sp
open Go Go.Av
set_option linter.unusedVariables false
set_option linter.unusedSimpArgs false

def ni (l : List Nat) (i : Nat) : Nat := (l[i]?).getD 0
theorem ni_get (l : List Nat) (i : Nat) (h : i < l.length) : ni l i = l[i] := by simp [ni, List.getElem?_eq_getElem h]
/-- The parts, as places. -/
noncomputable def partN (g : Gn) : List Nat := (List.range g.spots.length).map fun v => (partOf g.nx v).toNat
theorem partN_length (g : Gn) : (partN g).length = g.spots.length := by simp [partN]
theorem partN_cast (g : Gn) : (partN g).map (fun k : Nat => (k : Int)) = partsL g := by
  unfold partN partsL
  rw [List.map_map]
  apply List.map_congr_left
  intro v _
  have := partOf_bound (nx := g.nx) v
  simp only [Function.comp_apply]
  omega
theorem partN_lt (g : Gn) (i : Nat) (h : i < (partN g).length) : (partN g)[i] < g.spots.length := by
  have h1 := partOf_bound (nx := g.nx) i
  rw [partN_length] at h
  simp only [partN, List.getElem_map, List.getElem_range]
  omega
/-- P8.4: a part that has a way back into itself and meets all sets, by its least spot. -/
def fairP (g : Gn) (pn : List Nat) (i : Nat) : Prop :=
  ni pn i = i ∧ (∃ u, u < g.spots.length ∧ ni pn u = i ∧ ∃ w ∈ g.nx u, ni pn w = i) ∧ ∀ s, s < g.many → ∃ u, u < g.spots.length ∧ ni pn u = i ∧ (ni g.sets u).testBit s = true
noncomputable instance (g : Gn) (pn : List Nat) (i : Nat) : Decidable (fairP g pn i) := Classical.propDecidable _
noncomputable def fairL (g : Gn) (pn : List Nat) : List Bool := (List.range g.spots.length).map fun i => decide (fairP g pn i)
/-- Ways back into a part: of all spots before i, and k ways of i. -/
structure LoI (g : Gn) (pn : List Nat) (i k : Nat) (lo : List Bool) : Prop where
  len : lo.length = g.spots.length
  iff : ∀ v, v < g.spots.length → (bi lo v = true ↔ (∃ u, u < i ∧ ni pn u = v ∧ ∃ w ∈ g.nx u, ni pn w = v) ∨ (ni pn i = v ∧ ∃ w ∈ (g.nx i).take k, ni pn w = v))
section
variable {g : Gn} {pn : List Nat} {i k : Nat} {lo : List Bool}
theorem bi_rep (n v : Nat) : bi (List.replicate n false) v = false := by
  unfold bi; rw [List.getElem?_replicate]; split <;> rfl
theorem LoI.start (g : Gn) (pn : List Nat) : LoI g pn 0 0 (List.replicate g.spots.length false) where
  len := by simp
  iff v hv := by simp [bi_rep]
theorem LoI.yes (t : LoI g pn i k lo) (hk : k < (g.nx i).length) (he : ni pn (g.nx i)[k] = ni pn i) (hp : ni pn i < g.spots.length) : LoI g pn i (k + 1) (lo.set (ni pn i) true) where
  len := by simpa using t.len
  iff v hv := by
    rw [bi_set _ _ _ _ (by rw [t.len]; exact hp), List.take_succ_eq_append_getElem hk]
    split
    · rename_i e
      subst e
      refine ⟨fun _ => .inr ⟨rfl, _, List.mem_append.2 (.inr (List.mem_singleton.2 rfl)), he⟩, fun _ => rfl⟩
    · rename_i e
      rw [t.iff v hv]
      constructor
      · rintro (h | ⟨h1, w, h2, h3⟩)
        · exact .inl h
        · exact .inr ⟨h1, w, List.mem_append.2 (.inl h2), h3⟩
      · rintro (h | ⟨h1, w, h2, h3⟩)
        · exact .inl h
        · exact absurd h1.symm e
theorem LoI.no (t : LoI g pn i k lo) (hk : k < (g.nx i).length) (he : ¬ ni pn (g.nx i)[k] = ni pn i) : LoI g pn i (k + 1) lo where
  len := t.len
  iff v hv := by
    rw [t.iff v hv, List.take_succ_eq_append_getElem hk]
    constructor
    · rintro (h | ⟨h1, w, h2, h3⟩)
      · exact .inl h
      · exact .inr ⟨h1, w, List.mem_append.2 (.inl h2), h3⟩
    · rintro (h | ⟨h1, w, h2, h3⟩)
      · exact .inl h
      · rcases List.mem_append.1 h2 with h2 | h2
        · exact .inr ⟨h1, w, h2, h3⟩
        · rw [List.mem_singleton.1 h2] at h3
          exact absurd (h3.trans h1.symm) he
theorem LoI.done (t : LoI g pn i (g.nx i).length lo) : LoI g pn (i + 1) 0 lo where
  len := t.len
  iff v hv := by
    rw [t.iff v hv, List.take_length]
    simp only [List.take_zero, List.not_mem_nil, false_and, exists_false, and_false, or_false]
    constructor
    · rintro (⟨u, h1, h2⟩ | ⟨h1, h2⟩)
      · exact ⟨u, by omega, h2⟩
      · exact ⟨i, by omega, h1, h2⟩
    · rintro ⟨u, h1, h2, h3⟩
      by_cases e : u = i
      · subst e; exact .inr ⟨h2, h3⟩
      · exact .inl ⟨u, by omega, h2, h3⟩
/-- The sets that are met in a part: by all spots before i. -/
def SeI (g : Gn) (pn : List Nat) (i : Nat) (st : List Int) : Prop :=
  st.length = g.spots.length ∧ ∀ v, v < g.spots.length → ∃ x : Nat, gi st v = x ∧ x < 2 ^ g.many ∧ ∀ s, x.testBit s = true ↔ ∃ u, u < i ∧ ni pn u = v ∧ (ni g.sets u).testBit s = true
theorem SeI.start (g : Gn) (pn : List Nat) : SeI g pn 0 (List.replicate g.spots.length 0) := ⟨by simp, fun v hv => ⟨0, by rw [gi_rep]; rfl, Nat.two_pow_pos _, fun s => by simp⟩⟩
theorem sets_lt {g : Gn} (hok : g.ok) (i : Nat) : ni g.sets i < 2 ^ g.many := by
  by_cases h : i < g.sets.length
  · rw [ni_get _ _ h]; exact hok.bits i h
  · simp only [ni, List.getElem?_eq_none (Nat.le_of_not_lt h), Option.getD_none]
    exact Nat.two_pow_pos _
theorem many64 {g : Gn} (hok : g.ok) : 1 ≤ 2 ^ g.many ∧ 2 ^ g.many ≤ 64 := by
  have := hok.many
  have : g.many = 0 ∨ g.many = 1 ∨ g.many = 2 ∨ g.many = 3 ∨ g.many = 4 ∨ g.many = 5 ∨ g.many = 6 := by omega
  rcases this with h | h | h | h | h | h | h <;> rw [h] <;> decide
theorem SeI.step {st : List Int} (hok : g.ok) (t : SeI g pn i st) (hp : ni pn i < g.spots.length) : SeI g pn (i + 1) (st.set (ni pn i) (bits .or .i64 (gi st (ni pn i)) (ni g.sets i : Nat))) := ⟨by simpa using t.1, fun v hv => by
  obtain ⟨x, h1, h2, h3⟩ := t.2 v hv
  rw [gi_set _ _ _ _ (by rw [t.1]; exact hp)]
  have hlt := sets_lt hok i
  have h64 := many64 hok
  split
  · rename_i e
    subst e
    refine ⟨x ||| ni g.sets i, ?_, Nat.or_lt_two_pow h2 hlt, fun s => ?_⟩
    · rw [h1]
      exact (bits_nat .i64 63 (by decide) wraps_i64 x (ni g.sets i) (by omega) (by omega)).2
    · rw [Nat.testBit_or, Bool.or_eq_true, h3 s]
      constructor
      · rintro (⟨u, a, b⟩ | h)
        · exact ⟨u, by omega, b⟩
        · exact ⟨i, by omega, rfl, h⟩
      · rintro ⟨u, a, b, c⟩
        by_cases eu : u = i
        · subst eu; exact .inr c
        · exact .inl ⟨u, by omega, b, c⟩
  · rename_i e
    refine ⟨x, h1, h2, fun s => ?_⟩
    rw [h3 s]
    constructor
    · rintro ⟨u, a, b⟩
      exact ⟨u, by omega, b⟩
    · rintro ⟨u, a, b, c⟩
      by_cases eu : u = i
      · subst eu; exact absurd b.symm e
      · exact ⟨u, by omega, b, c⟩⟩
/-- What the loops and the sets tell. -/
theorem fair_iff {st : List Int} (t : LoI g pn g.spots.length 0 lo) (q : SeI g pn g.spots.length st) {i : Nat} (hi : i < g.spots.length) : fairP g pn i ↔ ni pn i = i ∧ bi lo i = true ∧ gi st i = 2 ^ g.many - 1 := by
  obtain ⟨x, h1, h2, h3⟩ := q.2 i hi
  rw [t.iff i hi]
  simp only [List.take_zero, List.not_mem_nil, false_and, exists_false, and_false, or_false]
  unfold fairP
  refine and_congr_right fun _ => and_congr_right fun _ => ?_
  have hpos : 1 ≤ 2 ^ g.many := Nat.two_pow_pos _
  constructor
  · intro h
    have e : x = 2 ^ g.many - 1 := by
      apply Nat.eq_of_testBit_eq
      intro s
      rw [Nat.testBit_two_pow_sub_one]
      by_cases hs : s < g.many
      · rw [decide_eq_true hs, h3 s]; exact h s hs
      · rw [decide_eq_false hs]
        exact Nat.testBit_lt_two_pow (Nat.lt_of_lt_of_le h2 (Nat.pow_le_pow_right (by decide) (by omega)))
    rw [h1, e]
    have : ((2 ^ g.many - 1 : Nat) : Int) = ((2 ^ g.many : Nat) : Int) - 1 := by omega
    rw [this]
    simp
  · intro h s hs
    have e : x = 2 ^ g.many - 1 := by
      have e1 : ((2 : Int) ^ g.many) = ((2 ^ g.many : Nat) : Int) := by simp
      rw [e1] at h
      omega
    rw [← h3 s, e, Nat.testBit_two_pow_sub_one, decide_eq_true hs]
end
theorem bit_div (x s : Nat) : (((x : Int) / 2 ^ s) % 2 = 1) ↔ x.testBit s = true := by
  rw [Nat.testBit_eq_decide_div_mod_eq, decide_eq_true_iff]
  have e : ((x : Int) / 2 ^ s) % 2 = ((x / 2 ^ s % 2 : Nat) : Int) := by simp
  rw [e]
  omega
/-- A spot that is reached, at a fair part. -/
def goodP (g : Gn) (i : Nat) : Prop := reachedP g i ∧ fairP g (partN g) i
noncomputable instance (g : Gn) (i : Nat) : Decidable (goodP g i) := Classical.propDecidable _
noncomputable def fairN (g : Gn) : Int × Int :=
  match (List.range g.spots.length).find? fun i => decide (goodP g i) with
  | some i => ((i : Int), 0)
  | none => (0, 11)
noncomputable def fairOf (g : Gr) : Int × Int := open Classical in if okG g then fairN (natG g) else (0, 9)
theorem fairOf_ok {g : Gn} (h : g.ok) : fairOf g.gr = fairN g := by rw [fairOf, if_pos (Gn.ok_gr h), natG_eq h]
theorem fairOf_no {g : Gr} (h : ¬ okG g) : fairOf g = (0, 9) := by rw [fairOf, if_neg h]
theorem find_range {n i : Nat} {p : Nat → Bool} (hb : ∀ j, j < i → p j = false) (hi : i < n) (hp : p i = true) : (List.range n).find? p = some i := by
  rw [List.find?_range_eq_some]
  exact ⟨hp, List.mem_range.2 hi, fun j hj => by simp [hb j hj]⟩
theorem find_none {n : Nat} {p : Nat → Bool} (hb : ∀ j, j < n → p j = false) : (List.range n).find? p = none := by
  rw [List.find?_eq_none]
  intro x hx
  rw [hb x (List.mem_range.1 hx)]
  decide
theorem fairN_at {g : Gn} {i : Nat} (hb : ∀ j, j < i → ¬ goodP g j) (hi : i < g.spots.length) (hp : goodP g i) : fairN g = ((i : Int), 0) := by
  rw [fairN, find_range (fun j hj => decide_eq_false (hb j hj)) hi (decide_eq_true hp)]
theorem fairN_none {g : Gn} (hb : ∀ j, j < g.spots.length → ¬ goodP g j) : fairN g = (0, 11) := by
  rw [fairN, find_none fun j hj => decide_eq_false (hb j hj)]
/-- A way back into the part i, by all spots before k and j ways of k. -/
def lpP (g : Gn) (pn : List Nat) (i k j : Nat) : Prop := (∃ u, u < k ∧ ni pn u = i ∧ ∃ w ∈ g.nx u, ni pn w = i) ∨ (ni pn k = i ∧ ∃ w ∈ (g.nx k).take j, ni pn w = i)
theorem lpP_zero (g : Gn) (pn : List Nat) (i : Nat) : ¬ lpP g pn i 0 0 := by simp [lpP]
theorem lpP_step {g : Gn} {pn : List Nat} {i k j : Nat} (hj : j < (g.nx k).length) : lpP g pn i k (j + 1) ↔ lpP g pn i k j ∨ (ni pn k = i ∧ ni pn (g.nx k)[j] = i) := by
  unfold lpP
  rw [List.take_succ_eq_append_getElem hj]
  constructor
  · rintro (h | ⟨h1, w, h2, h3⟩)
    · exact .inl (.inl h)
    · rcases List.mem_append.1 h2 with h2 | h2
      · exact .inl (.inr ⟨h1, w, h2, h3⟩)
      · rw [List.mem_singleton.1 h2] at h3
        exact .inr ⟨h1, h3⟩
  · rintro ((h | ⟨h1, w, h2, h3⟩) | ⟨h1, h2⟩)
    · exact .inl h
    · exact .inr ⟨h1, w, List.mem_append.2 (.inl h2), h3⟩
    · exact .inr ⟨h1, _, List.mem_append.2 (.inr (List.mem_singleton.2 rfl)), h2⟩
theorem lpP_done {g : Gn} {pn : List Nat} {i k : Nat} : lpP g pn i k (g.nx k).length ↔ lpP g pn i (k + 1) 0 := by
  unfold lpP
  rw [List.take_length]
  simp only [List.take_zero, List.not_mem_nil, false_and, exists_false, and_false, or_false]
  constructor
  · rintro (⟨u, h1, h2⟩ | ⟨h1, h2⟩)
    · exact ⟨u, by omega, h2⟩
    · exact ⟨k, by omega, h1, h2⟩
  · rintro ⟨u, h1, h2, h3⟩
    by_cases e : u = k
    · subst e; exact .inr ⟨h2, h3⟩
    · exact .inl ⟨u, by omega, h2, h3⟩
theorem lpP_end {g : Gn} {pn : List Nat} {i : Nat} : lpP g pn i g.spots.length 0 ↔ ∃ u, u < g.spots.length ∧ ni pn u = i ∧ ∃ w ∈ g.nx u, ni pn w = i := by
  unfold lpP
  simp
/-- The set s is met in the part i, by a spot before k. -/
def meP (g : Gn) (pn : List Nat) (i s k : Nat) : Prop := ∃ u, u < k ∧ ni pn u = i ∧ (ni g.sets u).testBit s = true
theorem meP_zero (g : Gn) (pn : List Nat) (i s : Nat) : ¬ meP g pn i s 0 := by simp [meP]
theorem meP_step {g : Gn} {pn : List Nat} {i s k : Nat} : meP g pn i s (k + 1) ↔ meP g pn i s k ∨ (ni pn k = i ∧ (ni g.sets k).testBit s = true) := by
  unfold meP
  constructor
  · rintro ⟨u, h1, h2⟩
    by_cases e : u = k
    · subst e; exact .inr h2
    · exact .inl ⟨u, by omega, h2⟩
  · rintro (⟨u, h1, h2⟩ | h)
    · exact ⟨u, by omega, h2⟩
    · exact ⟨k, by omega, h⟩
end Go.Sp
