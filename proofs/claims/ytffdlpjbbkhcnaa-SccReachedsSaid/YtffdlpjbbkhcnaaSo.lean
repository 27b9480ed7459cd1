/-
  PLAIN, NO PROGRAM: what is reached, told by two searches (P8.3).
-/
import Derived.Test.YtffdlpjbbkhcnaaSn
namespace Go.Sp
open Go.Av

def bi (l : List Bool) (i : Nat) : Bool := (l[i]?).getD false
theorem bi_get (l : List Bool) (i : Nat) (h : i < l.length) : bi l i = l[i] := by simp [bi, List.getElem?_eq_getElem h]
theorem bi_lt {l : List Bool} {i : Nat} (h : bi l i = true) : i < l.length := by
  rcases Nat.lt_or_ge i l.length with h' | h'
  · exact h'
  · simp [bi, List.getElem?_eq_none h'] at h
theorem bi_set (l : List Bool) (i j : Nat) (v : Bool) (h : i < l.length) : bi (l.set i v) j = if j = i then v else bi l j := by
  unfold bi
  by_cases e : j = i
  · subst e; rw [if_pos rfl, List.getElem?_set_self h]; rfl
  · rw [if_neg e, List.getElem?_set_ne (Ne.symm e)]
/-- How many are not seen. -/
def unseen : List Bool → Nat
  | [] => 0
  | b :: l => (if b then 0 else 1) + unseen l
theorem unseen_set : ∀ (l : List Bool) (i : Nat) (h : i < l.length), l[i] = false → unseen (l.set i true) + 1 = unseen l
  | [], i, h, _ => by simp at h
  | b :: l, 0, _, h0 => by
    have : b = false := h0
    subst this
    simp [unseen, Nat.add_comm]
  | b :: l, i + 1, h, h0 => by
    have ih := unseen_set l i (by simpa using h) (by simpa using h0)
    simp only [List.set_cons_succ, unseen]
    omega

/-- A place is visited. -/
def visitF (p : List Bool × List Nat) (i : Nat) : List Bool × List Nat := if bi p.1 i then p else (p.1.set i true, p.2 ++ [i])
/-- What is known on the way; x: the place whose edges are gone through, and how many of them were. -/
structure RI (g : Gn) (x : Option (Nat × Nat)) (k : Nat) (p : List Bool × List Nat) : Prop where
  len : p.1.length = g.spots.length
  todo : ∀ v ∈ p.2, v < g.spots.length ∧ bi p.1 v = true
  sound : ∀ v, bi p.1 v = true → reachedP g v
  init : ∀ j, j < k → bi p.1 j = true
  cl : ∀ v, bi p.1 v = true → v ∉ p.2 → ∀ (m : Nat) (hm : m < (g.nx v).length), (∀ j, x = some (v, j) → m < j) → bi p.1 ((g.nx v)[m]) = true
def muR (p : List Bool × List Nat) : Nat := 2 * unseen p.1 + p.2.length
theorem visit_mu {p : List Bool × List Nat} {i : Nat} (h : i < p.1.length) : muR (visitF p i) ≤ muR p := by
  unfold visitF
  split
  · exact Nat.le_refl _
  · rename_i hb
    have := unseen_set p.1 i h (by rw [bi_get _ _ h] at hb; simpa using hb)
    simp only [muR, List.length_append, List.length_singleton]
    omega
theorem visit_keeps {p : List Bool × List Nat} {i v : Nat} (h : i < p.1.length) (hv : bi p.1 v = true) : bi (visitF p i).1 v = true := by
  unfold visitF
  split
  · exact hv
  · rw [bi_set _ _ _ _ h]; split
    · rfl
    · exact hv
theorem visit_self {p : List Bool × List Nat} {i : Nat} (h : i < p.1.length) : bi (visitF p i).1 i = true := by
  unfold visitF
  split
  · assumption
  · rw [bi_set _ _ _ _ h, if_pos rfl]
theorem visit_length (p : List Bool × List Nat) (i : Nat) : (visitF p i).1.length = p.1.length := by
  unfold visitF; split <;> simp
theorem RI.visit {g : Gn} {x : Option (Nat × Nat)} {k i : Nat} {p : List Bool × List Nat} (t : RI g x k p) (hi : i < g.spots.length) (hr : reachedP g i) : RI g x k (visitF p i) := by
  have hil : i < p.1.length := by rw [t.len]; exact hi
  refine ⟨by rw [visit_length, t.len], fun v hv => ?_, fun v hv => ?_, fun j hj => visit_keeps hil (t.init j hj), fun v hv hn m hm hx => ?_⟩
  · by_cases hb : bi p.1 i = true
    · rw [visitF, if_pos hb] at hv ⊢; exact t.todo v hv
    · have hv' : v ∈ p.2 ∨ v = i := by rw [visitF, if_neg hb] at hv; simpa using hv
      rcases hv' with h | h
      · exact ⟨(t.todo v h).1, visit_keeps hil (t.todo v h).2⟩
      · rw [h]; exact ⟨hi, visit_self hil⟩
  · by_cases e : v = i
    · rw [e]; exact hr
    · unfold visitF at hv
      split at hv
      · exact t.sound v hv
      · rw [bi_set _ _ _ _ hil, if_neg e] at hv; exact t.sound v hv
  · by_cases hb : bi p.1 i = true
    · rw [visitF, if_pos hb] at hv hn ⊢; exact t.cl v hv hn m hm hx
    · have hn' : v ∉ p.2 ∧ v ≠ i := by rw [visitF, if_neg hb] at hn; simpa using hn
      have hv' : bi p.1 v = true := by rw [visitF, if_neg hb, bi_set _ _ _ _ hil, if_neg hn'.2] at hv; exact hv
      exact visit_keeps hil (t.cl v hv' hn'.1 m hm hx)
theorem RI.start (g : Gn) : RI g none 0 (List.replicate g.spots.length false, []) where
  len := by simp
  todo := by simp
  sound v h := by simp [bi, List.getElem?_replicate] at h; split at h <;> simp at h
  init j h := by omega
  cl v h := by simp [bi, List.getElem?_replicate] at h; split at h <;> simp at h
theorem RI.initStep {g : Gn} (hok : g.ok) {k : Nat} {p : List Bool × List Nat} (t : RI g none k p) (hk : k < g.init) : RI g none (k + 1) (visitF p k) := by
  have hi : k < g.spots.length := Nat.lt_of_lt_of_le hk hok.init
  have t' := t.visit hi ⟨k, hk, .refl k⟩
  refine { t' with init := fun j hj => ?_ }
  by_cases e : j = k
  · rw [e]; exact visit_self (by rw [t.len]; exact hi)
  · exact t'.init j (by omega)
/-- The last one is taken up. -/
theorem RI.pop {g : Gn} {k v : Nat} {p : List Bool × List Nat} {r : List Nat} (t : RI g none k p) (hp : p.2 = r ++ [v]) : RI g (some (v, 0)) k (p.1, r) where
  len := t.len
  todo w hw := t.todo w (by rw [hp]; exact List.mem_append.2 (.inl hw))
  sound := t.sound
  init := t.init
  cl w hw hn m hm hx := by
    by_cases e : w = v
    · have := hx 0 (by rw [e]); omega
    · exact t.cl w hw (by rw [hp]; simp [e, hn]) m hm fun j h => by cases h
theorem RI.edge {g : Gn} (hok : g.ok) {k v j : Nat} {p : List Bool × List Nat} (t : RI g (some (v, j)) k p) (hv : bi p.1 v = true) (hj : j < (g.nx v).length) : RI g (some (v, j + 1)) k (visitF p (g.nx v)[j]) := by
  have hw := g.nx_lt hok v _ (List.getElem_mem hj)
  have hr : reachedP g (g.nx v)[j] := by
    obtain ⟨a, h1, h2⟩ := t.sound v hv
    exact ⟨a, h1, .step h2 (List.getElem_mem hj)⟩
  have t' := t.visit hw hr
  refine { t' with cl := fun u hu hn m hm hx => ?_ }
  by_cases e : u = v ∧ m = j
  · obtain ⟨rfl, rfl⟩ := e
    exact visit_self (by rw [t.len]; exact hw)
  · refine t'.cl u hu hn m hm fun i hi => ?_
    cases hi
    have := hx (j + 1) rfl
    have : m ≠ j := fun h => e ⟨rfl, h⟩
    omega
theorem RI.done {g : Gn} {k v : Nat} {p : List Bool × List Nat} (t : RI g (some (v, (g.nx v).length)) k p) : RI g none k p :=
  { t with cl := fun w hw hn m hm _ => t.cl w hw hn m hm fun j h => by cases h; exact hm }
theorem RI.all {g : Gn} {p : List Bool × List Nat} (t : RI g none g.init p) (h0 : p.2 = []) : p.1 = reachedL g := by
  refine List.ext_getElem (by rw [t.len]; simp [reachedL]) fun i h1 h2 => ?_
  have e : (reachedL g)[i] = decide (reachedP g i) := by simp [reachedL]
  rw [e, ← bi_get _ _ h1]
  have key : bi p.1 i = true ↔ reachedP g i := by
    refine ⟨t.sound i, fun ⟨j, hj, hr⟩ => ?_⟩
    refine Rch.closed (S := fun v => bi p.1 v = true) (fun v hv w hw => ?_) hr (t.init j hj)
    obtain ⟨m, hm, rfl⟩ := List.getElem_of_mem hw
    exact t.cl v hv (by rw [h0]; simp) m hm fun _ h => by cases h
  by_cases h : reachedP g i
  · rw [key.2 h, decide_eq_true h]
  · rw [decide_eq_false h]
    cases hb : bi p.1 i with
    | false => rfl
    | true => exact absurd (key.1 hb) h

/-! ### Round by round -/
/-- P8.2, P8.3: from some spots. -/
def fromP (nx : Nat → List Nat) (fr : List Nat) (i : Nat) : Prop := ∃ j ∈ fr, Rch nx j i
noncomputable instance (nx : Nat → List Nat) (fr : List Nat) (i : Nat) : Decidable (fromP nx fr i) := Classical.propDecidable _
noncomputable def fromL (nx : Nat → List Nat) (n : Nat) (fr : List Nat) : List Bool := (List.range n).map fun i => decide (fromP nx fr i)
/-- What is known on the way; x: as before. -/
structure FI (nx : Nat → List Nat) (n : Nat) (fr : List Nat) (x : Option (Nat × Nat)) (st : List Int) : Prop where
  len : st.length = n
  val : ∀ v, gi st v = 0 ∨ gi st v = 1 ∨ gi st v = 2
  sound : ∀ v, gi st v ≠ 0 → fromP nx fr v
  init : ∀ v ∈ fr, gi st v ≠ 0
  cl : ∀ v, gi st v = 2 → ∀ (m : Nat) (hm : m < (nx v).length), (∀ j, x = some (v, j) → m < j) → gi st (nx v)[m] ≠ 0
def not2 : List Int → Nat
  | [] => 0
  | b :: l => (if b = 2 then 0 else 1) + not2 l
theorem not2_set2 : ∀ (l : List Int) (i : Nat) (h : i < l.length), l[i] ≠ 2 → not2 (l.set i 2) + 1 = not2 l
  | [], i, h, _ => by simp at h
  | b :: l, 0, _, h0 => by
    have : b ≠ 2 := h0
    simp [not2, this, Nat.add_comm]
  | b :: l, i + 1, h, h0 => by
    have ih := not2_set2 l i (by simpa using h) (by simpa using h0)
    simp only [List.set_cons_succ, not2]
    omega
theorem not2_set1 : ∀ (l : List Int) (i : Nat) (h : i < l.length), l[i] ≠ 2 → not2 (l.set i 1) = not2 l
  | [], i, h, _ => by simp at h
  | b :: l, 0, _, h0 => by
    have : b ≠ 2 := h0
    simp [not2, this]
  | b :: l, i + 1, h, h0 => by
    have ih := not2_set1 l i (by simpa using h) (by simpa using h0)
    simp only [List.set_cons_succ, not2]
    omega
section
variable {nx : Nat → List Nat} {n : Nat} {fr : List Nat} {st : List Int}
/-- A spot is taken up. -/
theorem FI.take {v : Nat} (t : FI nx n fr none st) (hv : gi st v = 1) : FI nx n fr (some (v, 0)) (st.set v 2) := by
  have hl : v < st.length := by
    rcases Nat.lt_or_ge v st.length with h | h
    · exact h
    · rw [gi_out _ _ h] at hv; cases hv
  refine ⟨by simp [t.len], fun w => ?_, fun w hw => ?_, fun w hw => ?_, fun w hw m hm hx => ?_⟩
  · rw [gi_set _ _ _ _ hl]; split
    · exact .inr (.inr rfl)
    · exact t.val w
  · rw [gi_set _ _ _ _ hl] at hw
    by_cases e : w = v
    · rw [e]; exact t.sound v (by omega)
    · rw [if_neg e] at hw; exact t.sound w hw
  · rw [gi_set _ _ _ _ hl]; split
    · decide
    · exact t.init w hw
  · by_cases e : w = v
    · have := hx 0 (by rw [e]); omega
    · rw [gi_set _ _ _ _ hl, if_neg e] at hw
      have := t.cl w hw m hm fun j h => by cases h
      rw [gi_set _ _ _ _ hl]; split
      · decide
      · exact this
/-- An edge is looked at. -/
def markF (st : List Int) (w : Nat) : List Int := if gi st w = 0 then st.set w 1 else st
theorem markF_length (st : List Int) (w : Nat) : (markF st w).length = st.length := by unfold markF; split <;> simp
theorem FI.mark {v j : Nat} (hn : ∀ i, ∀ k ∈ nx i, k < n) (t : FI nx n fr (some (v, j)) st) (hv : gi st v = 2) (hj : j < (nx v).length) : FI nx n fr (some (v, j + 1)) (markF st (nx v)[j]) ∧ gi (markF st (nx v)[j]) v = 2 ∧ not2 (markF st (nx v)[j]) = not2 st := by
  have hl : (nx v)[j] < st.length := by rw [t.len]; exact hn v _ (List.getElem_mem hj)
  have hkeep : ∀ w, gi st w ≠ 0 → gi (markF st (nx v)[j]) w = gi st w := fun w hw => by
    unfold markF; split
    · rename_i h0
      rw [gi_set _ _ _ _ hl, if_neg]
      intro e; rw [e] at hw; exact hw h0
    · rfl
  have hself : gi (markF st (nx v)[j]) (nx v)[j] ≠ 0 := by
    unfold markF; split
    · rw [gi_set _ _ _ _ hl, if_pos rfl]; decide
    · assumption
  have h2 : ∀ w, gi (markF st (nx v)[j]) w = 2 → gi st w = 2 := fun w hw => by
    unfold markF at hw; split at hw
    · rw [gi_set _ _ _ _ hl] at hw
      split at hw
      · cases hw
      · exact hw
    · exact hw
  refine ⟨⟨by rw [markF_length, t.len], fun w => ?_, fun w hw => ?_, fun w hw => ?_, fun w hw m hm hx => ?_⟩, ?_, ?_⟩
  · unfold markF; split
    · rw [gi_set _ _ _ _ hl]; split
      · exact .inr (.inl rfl)
      · exact t.val w
    · exact t.val w
  · by_cases e : w = (nx v)[j]
    · obtain ⟨a, h1, h3⟩ := t.sound v (by omega)
      rw [e]; exact ⟨a, h1, .step h3 (List.getElem_mem hj)⟩
    · refine t.sound w ?_
      unfold markF at hw; split at hw
      · rw [gi_set _ _ _ _ hl, if_neg e] at hw; exact hw
      · exact hw
  · rw [hkeep w (t.init w hw)]; exact t.init w hw
  · by_cases e : w = v ∧ m = j
    · obtain ⟨rfl, rfl⟩ := e; exact hself
    · have := t.cl w (h2 w hw) m hm fun i hi => by
        cases hi
        have := hx (j + 1) rfl
        have : m ≠ j := fun h => e ⟨rfl, h⟩
        omega
      rw [hkeep _ this]; exact this
  · rw [hkeep v (by omega)]; exact hv
  · unfold markF; split
    · rename_i h0
      exact not2_set1 _ _ hl (by rw [← gi_get _ _ hl, h0]; decide)
    · rfl
theorem FI.done {v : Nat} (t : FI nx n fr (some (v, (nx v).length)) st) : FI nx n fr none st :=
  { t with cl := fun w hw m hm _ => t.cl w hw m hm fun j h => by cases h; exact hm }
theorem FI.all (t : FI nx n fr none st) (h1 : ∀ i, i < n → gi st i ≠ 1) (hn : ∀ i, ∀ k ∈ nx i, k < n) : st.map (fun s => decide (0 < s)) = fromL nx n fr := by
  refine List.ext_getElem (by simp [fromL, t.len]) fun i h2 h3 => ?_
  have hi : i < st.length := by simpa using h2
  have e : (fromL nx n fr)[i] = decide (fromP nx fr i) := by simp [fromL]
  rw [e, List.getElem_map, ← gi_get _ _ hi]
  have h02 : ∀ v, gi st v ≠ 0 → gi st v = 2 := fun v hv => by
    have hvn : v < n := by
      rcases Nat.lt_or_ge v st.length with h | h
      · rw [t.len] at h; exact h
      · rw [gi_out _ _ h] at hv; exact absurd rfl hv
    rcases t.val v with h | h | h
    · exact absurd h hv
    · exact absurd h (h1 v hvn)
    · exact h
  have key : gi st i ≠ 0 ↔ fromP nx fr i := by
    refine ⟨t.sound i, fun ⟨j, hj, hr⟩ => ?_⟩
    refine Rch.closed (S := fun v => gi st v ≠ 0) (fun v hv w hw => ?_) hr (t.init j hj)
    obtain ⟨m, hm, rfl⟩ := List.getElem_of_mem hw
    exact t.cl v (h02 v hv) m hm fun _ h => by cases h
  have hval := t.val i
  by_cases h : fromP nx fr i
  · have := key.2 h
    rw [decide_eq_true h, decide_eq_true (by omega)]
  · have : ¬ gi st i ≠ 0 := fun hh => h (key.1 hh)
    rw [decide_eq_false h, decide_eq_false (by omega)]
end
/-! ### The document's answers, of whatever graph -/
noncomputable def natG (g : Gr) : Gn := open Classical in if h : okG g then Classical.choose (okG_nat h) else ⟨[], 0, [], [], 0⟩
theorem Gn.gr_inj {a b : Gn} (h : a.gr = b.gr) : a = b := by
  obtain ⟨a1, a2, a3, a4, a5⟩ := a
  obtain ⟨b1, b2, b3, b4, b5⟩ := b
  simp only [Gn.gr, Gr.mk.injEq] at h
  obtain ⟨h1, h2, h3, h4, h5⟩ := h
  have hinj : Function.Injective (fun k : Nat => (k : Int)) := fun x y h => by have h' : (x : Int) = y := h; omega
  have e3 : a3 = b3 := List.map_inj_right (fun x y h => List.map_inj_right (fun _ _ h => hinj h) |>.1 h) |>.1 h3
  have e4 : a4 = b4 := List.map_inj_right (fun _ _ h => hinj h) |>.1 h4
  subst h1 e3 e4
  have e2 : a2 = b2 := by omega
  have e5 : a5 = b5 := by omega
  subst e2 e5
  rfl
theorem natG_eq {g : Gn} (h : g.ok) : natG g.gr = g := by
  have hk := (Gn.ok_gr h)
  unfold natG
  rw [dif_pos hk]
  exact Gn.gr_inj (Classical.choose_spec (okG_nat hk)).1
/-- P8.3. -/
noncomputable def reachedOf (g : Gr) : List Bool × Int := open Classical in if okG g then (reachedL (natG g), 0) else ([], 9)
theorem reachedOf_ok {g : Gn} (h : g.ok) : reachedOf g.gr = (reachedL g, 0) := by rw [reachedOf, if_pos (Gn.ok_gr h), natG_eq h]
theorem reachedOf_no {g : Gr} (h : ¬ okG g) : reachedOf g = ([], 9) := by rw [reachedOf, if_neg h]
theorem fromL_init (g : Gn) : fromL g.nx g.spots.length (List.range g.init) = reachedL g := by
  unfold fromL reachedL
  refine List.map_congr_left fun i _ => ?_
  have : fromP g.nx (List.range g.init) i ↔ reachedP g i := by simp [fromP, reachedP]
  exact decide_eq_decide.2 this
end Go.Sp
