/-
  PLAIN, NO PROGRAM: what holds of a formula along a word, place by place.
-/
import Derived.Test.YtacdheachjnejaaDoorSf
import Derived.Test.YtacdheachjnejaaDoorG7
import Derived.Test.YtacdheachjnejaaDoorE4
namespace Go.Sp
open Go Go.Av
set_option linter.unusedVariables false
set_option linter.unusedSimpArgs false

/-- The four laws of looking ahead. -/
def laOf (k : Int) (A B : Nat → Bool) (nx : Nat → Nat) : La :=
  if k = 17 then ⟨A, fun _ => true, nx, false⟩
  else if k = 18 then ⟨fun i => !A i, fun _ => false, nx, true⟩
  else if k = 15 then ⟨fun i => B i || !A i, B, nx, false⟩
  else ⟨fun i => !B i || A i, B, nx, true⟩
theorem laOf_nxt (k : Int) (A B : Nat → Bool) (nx : Nat → Nat) : (laOf k A B nx).nxt = nx := by
  unfold laOf
  by_cases h1 : k = 17
  · rw [if_pos h1]
  by_cases h2 : k = 18
  · rw [if_neg h1, if_pos h2]
  by_cases h3 : k = 15
  · rw [if_neg h1, if_neg h2, if_pos h3]
  rw [if_neg h1, if_neg h2, if_neg h3]
/-- What a letter says of a proposition. -/
def letB (al : List (List Bool)) (i v : Nat) : Bool := ((al[i]?.bind fun x => x[v]?).getD false)
/-- What holds at a place, by what holds at the places of its terms. -/
def stepW (l : List Fo) (al : List (List Bool)) (s at_ : Nat) (A B : Nat → Bool) (i : Nat) : Bool :=
  if kindAt l at_ = 13 then letB al i (valAt l at_).toNat
  else if kindAt l at_ = 11 then true
  else if kindAt l at_ = 12 then false
  else if kindAt l at_ = 10 then !A i
  else if kindAt l at_ = 8 then A i && B i
  else if kindAt l at_ = 9 then A i || B i
  else if kindAt l at_ = 14 then A (wnx s al.length i)
  else (laOf (kindAt l at_) A B (wnx s al.length)).up (al.length + 1) i
def wv (l : List Fo) (al : List (List Bool)) (s : Nat) : Nat → Nat → Nat → Bool
  | 0, _ => fun _ => false
  | m + 1, i => if i < l.length then stepW l al s i (wv l al s m (i + 1)) (if i < second l i then wv l al s m (second l i) else fun _ => false) else fun _ => false
def wAt (l : List Fo) (al : List (List Bool)) (s : Nat) (i : Nat) : Nat → Bool := wv l al s (l.length - i) i
theorem wv_enough (l : List Fo) (al : List (List Bool)) (s : Nat) : ∀ (m i : Nat), l.length ≤ i + m → wv l al s m i = wAt l al s i := by
  intro m
  induction m using Nat.strongRecOn with
  | _ m ih =>
  intro i h
  unfold wAt
  by_cases hi : i < l.length
  · obtain ⟨m', rfl⟩ : ∃ m', m = m' + 1 := ⟨m - 1, by omega⟩
    obtain ⟨k, hk⟩ : ∃ k, l.length - i = k + 1 := ⟨l.length - i - 1, by omega⟩
    rw [hk]
    have e : ∀ j, i < j → wv l al s m' j = wv l al s k j := fun j hj => by
      rw [ih m' (by omega) j (by omega)]
      by_cases hkm : k < m' + 1
      · rw [ih k hkm j (by omega)]
      · omega
    simp only [wv, if_pos hi]
    rw [e (i + 1) (by omega)]
    by_cases h2 : i < second l i
    · rw [if_pos h2, if_pos h2, e _ h2]
    · rw [if_neg h2, if_neg h2]
  · rw [show l.length - i = 0 by omega]
    cases m with
    | zero => rfl
    | succ m => simp only [wv, if_neg hi]
theorem wAt_eq (l : List Fo) (al : List (List Bool)) (s i : Nat) (hi : i < l.length) : wAt l al s i = stepW l al s i (wAt l al s (i + 1)) (if i < second l i then wAt l al s (second l i) else fun _ => false) := by
  rw [← wv_enough l al s (l.length - (i + 1)) (i + 1) (by omega)]
  conv => lhs; rw [wAt, show l.length - i = (l.length - (i + 1)) + 1 by omega, wv, if_pos hi]
  by_cases h2 : i < second l i
  · rw [if_pos h2, if_pos h2, wv_enough l al s _ (second l i) (by omega)]
  · rw [if_neg h2, if_neg h2]
/-- The row of a place. -/
def wRow (l : List Fo) (al : List (List Bool)) (s i : Nat) : List Bool := (List.range al.length).map (wAt l al s i)
theorem wRow_len (l : List Fo) (al : List (List Bool)) (s i : Nat) : (wRow l al s i).length = al.length := by simp [wRow]
theorem wRow_get (l : List Fo) (al : List (List Bool)) (s i j : Nat) (h : j < (wRow l al s i).length) : (wRow l al s i)[j] = wAt l al s i j := by simp [wRow]
/-- A row told cell by cell. -/
theorem row_ext {row : List Bool} {f : Nat → Bool} {N : Nat} (h1 : row.length = N) (h2 : ∀ (i : Nat) (h : i < row.length), row[i] = f i) : row = (List.range N).map f := by
  refine List.ext_getElem (by simp [h1]) fun i h _ => ?_
  rw [h2 i h]; simp
/-- A row of booleans, read at a place. -/
def rd (row : List Bool) (b : Bool) (i : Nat) : Bool := (row[i]?).getD b
theorem rd_at {row : List Bool} {b : Bool} {i : Nat} (h : i < row.length) : rd row b i = row[i] := by unfold rd; rw [List.getElem?_eq_getElem h]; rfl
theorem rd_set {row : List Bool} {b x : Bool} {j : Nat} (h : j < row.length) : rd (row.set j x) b = fun i => if i = j then x else rd row b i := by
  funext i
  unfold rd
  rw [List.getElem?_set]
  by_cases e : j = i
  · subst e; simp [h]
  · rw [if_neg e, if_neg (fun h => e h.symm)]
/-- A row of the law that looks ahead, on its way. -/
abbrev RowOn (a : La) (row : List Bool) : Prop := a.On (rd row a.base)
theorem RowOn.start (a : La) (N : Nat) : RowOn a (List.replicate N a.base) := by
  have : rd (List.replicate N a.base) a.base = fun _ => a.base := by
    funext i; unfold rd
    rw [List.getElem?_replicate]; split <;> rfl
  unfold RowOn; rw [this]; exact La.On.start a
theorem RowOn.set {a : La} {row : List Bool} (h : RowOn a row) {j : Nat} (hj : j < row.length) (hn : a.nxt j < row.length) : RowOn a (row.set j (a.step j row[a.nxt j])) := by
  have := La.On.set h j
  unfold RowOn
  rw [rd_set hj]
  rw [rd_at hn] at this
  exact this
/-- A row at rest tells what the law says. -/
theorem RowOn.scan {a : La} {row : List Bool} {s : Nat} (h : RowOn a row) (hn : a.nxt = wnx s row.length) (hs : s < row.length) (hr : ∀ (i : Nat) (hi : i < row.length) (hi' : a.nxt i < row.length), row[i] = a.step i row[a.nxt i]) : ∀ (i : Nat) (h : i < row.length), row[i] = a.up (row.length + 1) i := by
  intro i hi
  have := La.On.scan (N := row.length) h (fun i hi => by
    have hx : a.nxt i < row.length := by rw [hn, wnx]; split <;> omega
    rw [rd_at hi, rd_at hx]; exact hr i hi hx) hn hs hi
  rw [rd_at hi] at this
  exact this
/-- How many cells still are as they began. -/
def atBase (b : Bool) (row : List Bool) : Nat := row.countP (· == b)
theorem atBase_le (b : Bool) (row : List Bool) : atBase b row ≤ row.length := List.countP_le_length
theorem countP_set {α : Type} (p : α → Bool) : ∀ (l : List α) (j : Nat) (x : α) (h : j < l.length), p l[j] = true → p x = false → (l.set j x).countP p + 1 = l.countP p
  | [], j, x, h, _, _ => by simp at h
  | y :: l, 0, x, h, h1, h2 => by simp only [List.getElem_cons_zero] at h1; simp [List.countP_cons, h1, h2]
  | y :: l, j + 1, x, h, h1, h2 => by
    have := countP_set p l j x (by simpa using h) (by simpa using h1) h2
    simp only [List.set_cons_succ, List.countP_cons]
    omega
/-- What is settled anew and differs, differs from the base; it was the base. -/
theorem RowOn.moved {a : La} {row : List Bool} (h : RowOn a row) {j : Nat} (hj : j < row.length) (hn : a.nxt j < row.length) (hd : a.step j row[a.nxt j] ≠ row[j]) : atBase a.base (row.set j (a.step j row[a.nxt j])) + 1 = atBase a.base row := by
  have hf := h.fore j
  rw [rd_at hj, rd_at hn] at hf
  by_cases c : row[j] = a.base
  · refine countP_set _ _ _ _ hj (by simp [c]) ?_
    have : a.step j row[a.nxt j] ≠ a.base := fun e => hd (by rw [e, c])
    simpa using this
  · exact absurd (bool_ne (hf c) c) hd
/-- P6.3. -/
noncomputable def momsOf (l : List Fo) (st lo : List (List Bool)) (f : Int) (e : Int) : List Bool × Int :=
  if f ≠ 0 then ([], f) else if e ≠ 0 then ([], e) else (wRow l (st ++ lo) st.length 0, 0)
/-- One bit of a claim for each place that looks ahead. -/
def claimAt (l : List Fo) (T : Nat → Nat → Bool) (i : Nat) : Nat → Int
  | 0 => 0
  | n + 1 => claimAt l T i n + if aheadP (kindAt l n) ∧ T n i = true then 2 ^ rank l n else 0
theorem claimAt_bound (l : List Fo) (T : Nat → Nat → Bool) (i : Nat) : ∀ n, 0 ≤ claimAt l T i n ∧ claimAt l T i n < 2 ^ rank l n
  | 0 => by simp [claimAt, rank]
  | n + 1 => by
    have ih := claimAt_bound l T i n
    have hp : (0 : Int) < 2 ^ rank l n := by exact_mod_cast Nat.pow_pos (by decide)
    simp only [claimAt, rank]
    by_cases c : aheadP (kindAt l n)
    · rw [if_pos c, Int.pow_succ]
      by_cases c2 : T n i = true
      · rw [if_pos ⟨c, c2⟩]; omega
      · rw [if_neg (fun h => c2 h.2)]; omega
    · rw [if_neg c, if_neg (fun h => c h.1)]; simpa using ih
theorem la17 (A B : Nat → Bool) (nx : Nat → Nat) (i : Nat) (x : Bool) : (laOf 17 A B nx).step i x = (A i || x) := by
  show (if A i = true then true else x) = _
  cases A i <;> simp
theorem la18 (A B : Nat → Bool) (nx : Nat → Nat) (i : Nat) (x : Bool) : (laOf 18 A B nx).step i x = (A i && x) := by
  show (if (!A i) = true then false else x) = _
  cases A i <;> simp
theorem la15 (A B : Nat → Bool) (nx : Nat → Nat) (i : Nat) (x : Bool) : (laOf 15 A B nx).step i x = (B i || (A i && x)) := by
  show (if (B i || !A i) = true then B i else x) = _
  cases A i <;> cases B i <;> simp
theorem la16 (A B : Nat → Bool) (nx : Nat → Nat) (i : Nat) (x : Bool) : (laOf 16 A B nx).step i x = (B i && (A i || x)) := by
  show (if (!B i || A i) = true then B i else x) = _
  cases A i <;> cases B i <;> simp
theorem wRow_ahead {l : List Fo} {al : List (List Bool)} {s i : Nat} {k : Int} (hi : i < l.length) (hk : l[i].kind = k) (ha : 15 ≤ k ∧ k ≤ 18) {B : Nat → Bool} (hB : (if i < second l i then wAt l al s (second l i) else fun _ => false) = B) : (List.range al.length).map ((laOf k (wAt l al s (i + 1)) B (wnx s al.length)).up (al.length + 1)) = wRow l al s i := by
  have : wAt l al s i = (laOf k (wAt l al s (i + 1)) B (wnx s al.length)).up (al.length + 1) := by
    funext j
    rw [wAt_eq l al s i hi, hB, stepW, kindAt_eq l i hi, hk]
    rw [if_neg (by omega), if_neg (by omega), if_neg (by omega), if_neg (by omega), if_neg (by omega), if_neg (by omega), if_neg (by omega)]
  rw [wRow, this]
/-- A row on its way, cell by cell from the front. -/
structure WRow (f : Nat → Bool) (N i : Nat) (row : List Bool) : Prop where
  len : row.length = N
  done : ∀ (j : Nat) (h : j < row.length), j < i → row[j] = f j
  rest : ∀ (j : Nat) (h : j < row.length), i ≤ j → row[j] = false
theorem WRow.start (f : Nat → Bool) (N : Nat) : WRow f N 0 (List.replicate N false) := ⟨by simp, fun _ _ h => absurd h (Nat.not_lt_zero _), fun j h _ => by simp⟩
theorem WRow.next {f : Nat → Bool} {N i : Nat} {row : List Bool} (w : WRow f N i row) {x : Bool} (hx : f i = x) : WRow f N (i + 1) (row.set i x) := by
  refine ⟨by simp [w.len], fun j h hj => ?_, fun j h hj => ?_⟩
  · rw [List.getElem_set]
    split
    · rename_i e; subst e; exact hx.symm
    · exact w.done j (by simpa using h) (by omega)
  · rw [List.getElem_set, if_neg (by omega)]
    exact w.rest j (by simpa using h) (by omega)
theorem WRow.no {f : Nat → Bool} {N i : Nat} {row : List Bool} (w : WRow f N i row) (hx : f i = false) : WRow f N (i + 1) row := by
  refine ⟨w.len, fun j h hj => ?_, fun j h hj => w.rest j h (by omega)⟩
  by_cases e : j = i
  · subst e; rw [hx]; exact w.rest j h (Nat.le_refl _)
  · exact w.done j h (by omega)
theorem WRow.fin {f : Nat → Bool} {N : Nat} {row : List Bool} (w : WRow f N N row) : row = (List.range N).map f := row_ext w.len fun i h => w.done i h (by have := w.len; omega)
/-- The rows of a table that are told already. -/
def tabR (l : List Fo) (al : List (List Bool)) (s i : Nat) : List AV := (List.range l.length).map fun j => if i ≤ j then .d (.l 1 1 ((wRow l al s j).map boolC)) else .val (.slice none 0 0)
theorem tabR_len (l : List Fo) (al : List (List Bool)) (s i : Nat) : (tabR l al s i).length = l.length := by simp [tabR]
theorem tabR_get {l : List Fo} {al : List (List Bool)} {s i j : Nat} (h : i ≤ j) (hj : j < l.length) : (tabR l al s i)[j]? = some (.d (.l 1 1 ((wRow l al s j).map boolC))) := by
  unfold tabR
  rw [List.getElem?_map, List.getElem?_range hj]
  simp [h]
theorem tabR_start (l : List Fo) (al : List (List Bool)) (s : Nat) : tabR l al s l.length = List.replicate l.length (.val (.slice none 0 0)) := by
  refine List.ext_getElem (by simp [tabR]) fun j h _ => ?_
  have : j < l.length := by simpa [tabR] using h
  simp [tabR]; omega
theorem tabR_set {l : List Fo} {al : List (List Bool)} {s i : Nat} (hi : i < l.length) : (tabR l al s (i + 1)).set i (.d (.l 1 1 ((wRow l al s i).map boolC))) = tabR l al s i := by
  refine List.ext_getElem (by simp [tabR]) fun j h1 h2 => ?_
  rw [List.getElem_set]
  simp only [tabR, List.getElem_map, List.getElem_range]
  by_cases e : i = j
  · subst e; rw [if_pos rfl, if_pos (Nat.le_refl _)]
  · rw [if_neg e]
    by_cases c : i ≤ j
    · rw [if_pos (by omega), if_pos c]
    · rw [if_neg (by omega), if_neg c]
theorem Cvs.at (v : Value) (d : D) : ∀ (R : List AV) (i : Nat), Cvs v d (R.set i (.val v)) (R.set i (.d d))
  | [], _ => .nil
  | x :: R, 0 => .cons .here (Cvs.refl v d R)
  | x :: R, i + 1 => .cons (.same x) (Cvs.at v d R i)
theorem blt_of {a b : Nat} (h : a < b) : Nat.blt a b = true := by rw [Nat.blt_eq]; exact h
end Go.Sp
