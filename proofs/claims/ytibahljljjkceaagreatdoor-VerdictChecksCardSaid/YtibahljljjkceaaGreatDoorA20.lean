/- A bundle of this claim's own texts: Y9 G7 G8 G12 N1 M7. -/
import Derived.Test.YtibahljljjkceaaGreatDoorA1
import Derived.Test.YtibahljljjkceaaGreatDoorA2
import Derived.Test.YtibahljljjkceaaGreatDoorA10
import Derived.Test.YtibahljljjkceaaGreatDoorA11
import Derived.Test.YtibahljljjkceaaGreatDoorA12
import Derived.Test.YtibahljljjkceaaGreatDoorA13
import Derived.Test.YtibahljljjkceaaGreatDoorA15
import Derived.Test.YtibahljljjkceaaGreatDoorA16
import Derived.Test.YtibahljljjkceaaGreatDoorA17
import Derived.Test.YtibahljljjkceaaGreatDoorA18
import Derived.Test.YtibahljljjkceaaGreatDoorA19
set_option linter.unusedVariables false
set_option linter.unusedSimpArgs false
set_option maxRecDepth 100000
set_option maxHeartbeats 4000000
namespace Go.Proofs.YtibahljljjkceaaGreatDoor
open Go Go.Av Go.Sp
theorem Zb (G : List (Nat × List D)) (env : List Int) (henv : ∀ v ∈ env, AY v) (h6 : env.length ≤ 6) : ∀ (m : Nat) (l : List Fo), l.length ≤ m → Cw l env.length → ACr Tryz.prog G 127 [.d (AO l), .d (AK env)] (.tup [.int (wk l env).1, .int (wk l env).2]) := by
 intro m
 induction m using Nat.strongRecOn with
 | _ m ih =>
 intro l hm g
 have hk := g.kind g.pos
 have hk1 : 1 ≤ (l[nat_lit 0]'g.pos).kind := hk.1
 have hk2 : (l[nat_lit 0]'g.pos).kind ≤ 12 := hk.2.1
 by_cases a1 : (l[nat_lit 0]'g.pos).kind ≤ 2
 · exact U6 G env henv h6 m ih l hm g ⟨hk1, a1⟩
 by_cases a2 : (l[nat_lit 0]'g.pos).kind ≤ 5
 · exact Uf G env henv h6 m ih l hm g ⟨by omega, a2⟩
 by_cases a3 : (l[nat_lit 0]'g.pos).kind ≤ 7
 · exact Wk G env henv h6 m ih l hm g ⟨by omega, a3⟩
 by_cases a4 : (l[nat_lit 0]'g.pos).kind ≤ 9
 · exact Wi G env henv h6 m ih l hm g ⟨by omega, a4⟩
 exact Ug G env henv h6 m ih l hm g ⟨by omega, hk2⟩
theorem Ji (G : List (Nat × List D)) (l : List Fo) (env : List Int) : ACr Tryz.prog G 82 [.d (AO l), .d (AK env)] (.tup [.int (BP l env).1, .int (BP l env).2]) := by
 refine AC.factI (f := AW) (xs := env) (.there .here) fun hlv => ?_
 have hC := KA G l env.length
 refine AN (ts := [4, 5]) Tryz.f82.ntmps Tryz.func82 rfl rfl rfl (by simp [Tryz.ntmps82]) fun _ I => ?_
 have hgood := Lc (l := l) (vars := env.length)
 unfold BP
 generalize CY l env.length = p at hC hgood ⊢
 obtain ⟨t, e⟩ := p
 dsimp only at hC hgood ⊢
 by_cases he : e ≠ 0
 · repeat' (first
    | refine ca Eg (hC) ?_
    | exact True.intro | refine AD ?_ | refine two ?_ ?_ | refine AB fun c_ => ?_
    | (refine imp fun hc => ?_) <;> try exact cx1 hc
    | refine all fun v_ => ?_)
   refine AH (VS.drop (List.nil_sublist _)) ?_
   ((with_reducible apply rq2); rfl; rfl; rfl)
   refine AA ?_
   rw [if_pos he]
 replace he := Decidable.not_not.1 he
 obtain ⟨g, _, hv6⟩ := hgood he
 subst he
 rw [if_neg (fun h => h rfl)]
 repeat' (first
  | refine ca Eg (hC) ?_
  | exact True.intro | refine AD ?_ | refine two ?_ ?_ | refine AB fun c_ => ?_
  | (refine imp fun hc => ?_) <;> try exact cx1 hc
  | refine all fun v_ => ?_)
 refine AG (X := Nat) (fun i => [(0, .d (AO l)), (1, .d (AK env)), (8, .int i)]) (fun _ => []) (fun i => i ≤ env.length ∧ ∀ (j : Nat) (h : j < env.length), j < i → AY env[j]) (fun i => env.length - i) 0 ⟨Nat.zero_le _, fun _ _ h => absurd h (Nat.not_lt_zero _)⟩ (VS.of_le ?_) ?_
 · exact leD
 rintro i ⟨h1, h2⟩
 by_cases hi : i < env.length
 · by_cases hl : AY env[i]
   · have hin := A5 (In G (env[i]) (-1000000) 1000000) hl
     repeat' (first
      | refine ca AL (hin) ?_
      | exact True.intro | refine AD ?_ | refine two ?_ ?_ | refine AB fun c_ => ?_
      | (refine imp fun hc => ?_) <;> try exact cx1 hc
      | refine all fun v_ => ?_)
     refine ⟨i + 1, ⟨by omega, fun j hj hji => ?_⟩, by omega, VS.of_le ?_⟩
     · by_cases e : j = i
       · subst e; exact hl
       · exact h2 j hj (by omega)
     · exact leD
   · have hno : ¬ ∀ v ∈ env, AY v := fun h => hl (h _ (List.getElem_mem hi))
     have hin := DO (In G (env[i]) (-1000000) 1000000) hl
     rw [if_neg hno]
     repeat' (first
      | refine ca AL (hin) ?_
      | exact True.intro | refine AD ?_ | refine two ?_ ?_ | refine AB fun c_ => ?_
      | (refine imp fun hc => ?_) <;> try exact cx1 hc
      | refine all fun v_ => ?_)
     refine AH (VS.drop (List.nil_sublist _)) ?_
     ((with_reducible apply rq2); rfl; rfl; rfl)
     refine AA ?_
     rfl
 obtain rfl : i = env.length := by omega
 have henv : ∀ v ∈ env, AY v := fun v hv => by
  obtain ⟨j, hj, rfl⟩ := List.getElem_of_mem hv
  exact h2 j hj hj
 rw [if_pos henv]
 have hw := Zb G env henv (by omega) l.length l (Nat.le_refl _) g
 repeat' (first
  | refine ca CG (hw) ?_
  | exact True.intro | refine AD ?_ | refine two ?_ ?_ | refine AB fun c_ => ?_
  | (refine imp fun hc => ?_) <;> try exact cx1 hc
  | refine all fun v_ => ?_)
 refine AH (VS.drop (List.nil_sublist _)) ?_
 ((with_reducible apply rq2); rfl; rfl; rfl)
 refine AA ?_
 rfl
end Go.Proofs.YtibahljljjkceaaGreatDoor
namespace Go.Sp
open Go Go.Av

structure La where
 stop : Nat → Bool
 val : Nat → Bool
 nxt : Nat → Nat
 base : Bool
def La.step (a : La) (i : Nat) (x : Bool) : Bool := if a.stop i then a.val i else x
def La.up (a : La) : Nat → Nat → Bool
 | 0, _ => a.base
 | k + 1, i => a.step i (a.up k (a.nxt i))
theorem La.step_mono (a : La) {i : Nat} (h : a.step i a.base ≠ a.base) (x : Bool) : a.step i x ≠ a.base := by
 unfold La.step at h ⊢
 by_cases c : a.stop i
 · rw [if_pos c] at h ⊢; exact h
 · rw [if_neg c] at h; exact absurd rfl h
structure La.On (a : La) (row : Nat → Bool) : Prop where
 sound : ∀ i, row i ≠ a.base → ∃ k, a.up k i ≠ a.base
 fore : ∀ i, row i ≠ a.base → a.step i (row (a.nxt i)) ≠ a.base
theorem OJ {a b c : Bool} (h : a ≠ c) (h' : b ≠ c) : a = b := by revert h h'; cases a <;> cases b <;> cases c <;> decide
theorem La.rest {a : La} {row : Nat → Bool} {N : Nat} (hcl : ∀ i, i < N → a.nxt i < N) (h : ∀ i, i < N → row i = a.step i (row (a.nxt i))) : ∀ (k i : Nat), i < N → a.up k i ≠ a.base → row i ≠ a.base
 | 0, _, _, hk => absurd rfl hk
 | k + 1, i, hi, hk => by
   rw [h i hi]
   rw [La.up] at hk
   by_cases c : a.up k (a.nxt i) = a.base
   · rw [c] at hk; exact a.step_mono hk _
   · rw [OJ (La.rest hcl h k _ (hcl i hi) c) c]; exact hk
theorem La.On.done {a : La} {row : Nat → Bool} {N : Nat} (h : a.On row) (hcl : ∀ i, i < N → a.nxt i < N) (hr : ∀ i, i < N → row i = a.step i (row (a.nxt i))) {i : Nat} (hi : i < N) : row i ≠ a.base ↔ ∃ k, a.up k i ≠ a.base :=
 ⟨h.sound i, fun ⟨k, hk⟩ => La.rest hcl hr k i hi hk⟩
def La.itr (a : La) : Nat → Nat → Nat
 | 0, i => i
 | k + 1, i => a.itr k (a.nxt i)
theorem La.itr_add (a : La) : ∀ (j k i : Nat), a.itr (j + k) i = a.itr k (a.itr j i)
 | 0, k, i => by rw [Nat.zero_add]; rfl
 | j + 1, k, i => by rw [Nat.succ_add]; exact La.itr_add a j k (a.nxt i)
theorem La.up_skip (a : La) : ∀ (j m i : Nat), (∀ j', j' < j → ¬ a.stop (a.itr j' i)) → a.up (j + m) i = a.up m (a.itr j i)
 | 0, m, i, _ => by rw [Nat.zero_add]; rfl
 | j + 1, m, i, h => by
   have h0 : ¬ a.stop i := h 0 (by omega)
   rw [Nat.succ_add, La.up, La.step, if_neg h0]
   exact La.up_skip a j m (a.nxt i) fun j' hj => h (j' + 1) (by omega)
theorem La.up_first (a : La) : ∀ (k i : Nat), a.up k i ≠ a.base → ∃ j, j < k ∧ a.stop (a.itr j i) ∧ ∀ j', j' < j → ¬ a.stop (a.itr j' i)
 | 0, _, h => absurd rfl h
 | k + 1, i, h => by
   by_cases c : a.stop i
   · exact ⟨0, by omega, c, fun _ h => by omega⟩
   · rw [La.up, La.step, if_neg c] at h
     obtain ⟨j, h1, h2, h3⟩ := La.up_first a k (a.nxt i) h
     refine ⟨j + 1, by omega, h2, fun j' hj => ?_⟩
     cases j' with
     | zero => exact c
     | succ j' => exact h3 j' (by omega)
theorem La.up_all (a : La) (N i : Nat) (hc : ∀ k, ∃ k', k' ≤ k ∧ k' ≤ N ∧ a.itr k' i = a.itr k i) : (∃ k, a.up k i ≠ a.base) ↔ a.up (N + 1) i ≠ a.base := by
 refine ⟨fun ⟨k, hk⟩ => ?_, fun h => ⟨_, h⟩⟩
 obtain ⟨j, h1, h2, h3⟩ := a.up_first k i hk
 obtain ⟨j', k1, k2, k3⟩ := hc j
 have hj : j ≤ N := by
  by_cases e : j' = j
  · omega
  · exact absurd (k3 ▸ h2) (h3 j' (by omega))
 obtain ⟨m, rfl⟩ : ∃ m, k = j + (m + 1) := ⟨k - j - 1, by omega⟩
 rw [La.up_skip a j (m + 1) i h3, La.up, La.step, if_pos h2] at hk
 rw [show N + 1 = j + ((N - j) + 1) by omega, La.up_skip a j _ i h3, La.up, La.step, if_pos h2]
 exact hk
def wnx (s N i : Nat) : Nat := if i + 1 < N then i + 1 else s
theorem La.itr_succ (a : La) (k i : Nat) : a.itr (k + 1) i = a.nxt (a.itr k i) := by rw [La.itr_add a k 1 i]; rfl
theorem La.itr_lt (a : La) {s N : Nat} (hn : a.nxt = wnx s N) (hs : s < N) {i : Nat} (hi : i < N) : ∀ k, a.itr k i < N
 | 0 => hi
 | k + 1 => by rw [La.itr_succ, hn, wnx]; split <;> omega
theorem La.itr_ge (a : La) {s N : Nat} (hn : a.nxt = wnx s N) (i : Nat) : ∀ k, i + k ≤ a.itr k i ∨ s ≤ a.itr k i
 | 0 => .inl (Nat.le_refl _)
 | k + 1 => by
   rw [La.itr_succ, hn, wnx]
   rcases La.itr_ge a hn i k with h | h <;> split <;> omega
theorem La.itr_loop (a : La) {s N : Nat} (hn : a.nxt = wnx s N) (hs : s < N) {p : Nat} (hp : s ≤ p) (hp' : p < N) : ∀ j, j ≤ N - s → a.itr j p = if p + j < N then p + j else p + j - (N - s)
 | 0, _ => by simp [La.itr, hp']
 | j + 1, hj => by
   rw [La.itr_succ, La.itr_loop a hn hs hp hp' j (by omega), hn, wnx]
   by_cases c1 : p + j < N
   · rw [if_pos c1]
     by_cases c2 : p + j + 1 < N
     · rw [if_pos c2, if_pos (by omega)]; omega
     · rw [if_neg c2, if_neg (by omega)]; omega
   · rw [if_neg c1, if_pos (by omega), if_neg (by omega)]; omega
theorem La.cover (a : La) {s N : Nat} (hn : a.nxt = wnx s N) (hs : s < N) {i : Nat} (hi : i < N) (k : Nat) : ∃ k', k' ≤ k ∧ k' ≤ N ∧ a.itr k' i = a.itr k i := by
 induction k using Nat.strongRecOn with
 | ind k ih =>
   by_cases c : k ≤ N
   · exact ⟨k, Nat.le_refl _, c, rfl⟩
   obtain ⟨k', h1, h2, h3⟩ := ih (k - (N - s)) (by omega)
   have hg : s ≤ a.itr (k - (N - s)) i := by have := La.itr_ge a hn i (k - (N - s)); omega
   have hl := La.itr_loop a hn hs hg (La.itr_lt a hn hs hi _) (N - s) (Nat.le_refl _)
   rw [← La.itr_add, if_neg (by omega), show k - (N - s) + (N - s) = k by omega] at hl
   exact ⟨k', by omega, h2, by rw [h3, hl]; omega⟩
theorem La.On.scan {a : La} {row : Nat → Bool} {s N : Nat} (h : a.On row) (hr : ∀ i, i < N → row i = a.step i (row (a.nxt i))) (hn : a.nxt = wnx s N) (hs : s < N) {i : Nat} (hi : i < N) : row i = a.up (N + 1) i := by
 have hcl : ∀ i, i < N → a.nxt i < N := fun i hi => by rw [hn, wnx]; split <;> omega
 have e := (h.done hcl hr hi).trans (a.up_all N i (a.cover hn hs hi))
 by_cases c : row i = a.base
 · by_cases c' : a.up (N + 1) i = a.base
   · rw [c, c']
   · exact absurd c (e.2 c')
 · exact OJ c (e.1 c)

def C8 (k : Int) (A B : Nat → Bool) (nx : Nat → Nat) : La :=
 if k = 17 then ⟨A, fun _ => true, nx, false⟩
 else if k = 18 then ⟨fun i => !A i, fun _ => false, nx, true⟩
 else if k = 15 then ⟨fun i => B i || !A i, B, nx, false⟩
 else ⟨fun i => !B i || A i, B, nx, true⟩
theorem FZ (k : Int) (A B : Nat → Bool) (nx : Nat → Nat) : (C8 k A B nx).nxt = nx := by
 unfold C8
 by_cases h1 : k = 17
 · rw [if_pos h1]
 by_cases h2 : k = 18
 · rw [if_neg h1, if_pos h2]
 by_cases h3 : k = 15
 · rw [if_neg h1, if_neg h2, if_pos h3]
 rw [if_neg h1, if_neg h2, if_neg h3]
def Of (al : List (List Bool)) (i v : Nat) : Bool := ((al[i]?.bind fun x => x[v]?).getD false)
def SS (l : List Fo) (al : List (List Bool)) (s at_ : Nat) (A B : Nat → Bool) (i : Nat) : Bool :=
 if AQ l at_ = 13 then Of al i (FQ l at_).toNat
 else if AQ l at_ = 11 then true
 else if AQ l at_ = 12 then false
 else if AQ l at_ = 10 then !A i
 else if AQ l at_ = 8 then A i && B i
 else if AQ l at_ = 9 then A i || B i
 else if AQ l at_ = 14 then A (wnx s al.length i)
 else (C8 (AQ l at_) A B (wnx s al.length)).up (al.length + 1) i
def wv (l : List Fo) (al : List (List Bool)) (s : Nat) : Nat → Nat → Nat → Bool
 | 0, _ => fun _ => false
 | m + 1, i => if i < l.length then SS l al s i (wv l al s m (i + 1)) (if i < second l i then wv l al s m (second l i) else fun _ => false) else fun _ => false
def wAt (l : List Fo) (al : List (List Bool)) (s : Nat) (i : Nat) : Nat → Bool := wv l al s (l.length - i) i
theorem NJ (l : List Fo) (al : List (List Bool)) (s : Nat) : ∀ (m i : Nat), l.length ≤ i + m → wv l al s m i = wAt l al s i := by
 intro m
 induction m using Nat.strongRecOn with
 | _ m ih =>
 intro i h
 unfold wAt
 by_cases hi : i < l.length
 · obtain ⟨m', rfl⟩ : ∃ m', m = m' + 1 := ⟨m - 1, by omega⟩
   obtain ⟨k, hk⟩ : ∃ k, l.length - i = k + 1 := ⟨l.length - i - 1, by omega⟩
   rw [hk]
   have e : ∀ j, i < j → wv l al s m' j = wv l al s k j := fun j hj => by
    rw [ih m' (by omega) j (by omega)]
    by_cases hkm : k < m' + 1
    · rw [ih k hkm j (by omega)]
    · omega
   simp only [wv, if_pos hi]
   rw [e (i + 1) (by omega)]
   by_cases h2 : i < second l i
   · rw [if_pos h2, if_pos h2, e _ h2]
   · rw [if_neg h2, if_neg h2]
 · rw [show l.length - i = 0 by omega]
   cases m with
   | zero => rfl
   | succ m => simp only [wv, if_neg hi]
theorem WD (l : List Fo) (al : List (List Bool)) (s i : Nat) (hi : i < l.length) : wAt l al s i = SS l al s i (wAt l al s (i + 1)) (if i < second l i then wAt l al s (second l i) else fun _ => false) := by
 rw [← NJ l al s (l.length - (i + 1)) (i + 1) (by omega)]
 conv => lhs; rw [wAt, show l.length - i = (l.length - (i + 1)) + 1 by omega, wv, if_pos hi]
 by_cases h2 : i < second l i
 · rw [if_pos h2, if_pos h2, NJ l al s _ (second l i) (by omega)]
 · rw [if_neg h2, if_neg h2]
def EI (l : List Fo) (al : List (List Bool)) (s i : Nat) : List Bool := (List.range al.length).map (wAt l al s i)
theorem Pp (l : List Fo) (al : List (List Bool)) (s i : Nat) : (EI l al s i).length = al.length := by simp [EI]
theorem Uu (l : List Fo) (al : List (List Bool)) (s i j : Nat) (h : j < (EI l al s i).length) : (EI l al s i)[j] = wAt l al s i j := by simp [EI]
theorem YD {row : List Bool} {f : Nat → Bool} {N : Nat} (h1 : row.length = N) (h2 : ∀ (i : Nat) (h : i < row.length), row[i] = f i) : row = (List.range N).map f := by
 refine List.ext_getElem (by simp [h1]) fun i h _ => ?_
 rw [h2 i h]; simp
def rd (row : List Bool) (b : Bool) (i : Nat) : Bool := (row[i]?).getD b
theorem Uw {row : List Bool} {b : Bool} {i : Nat} (h : i < row.length) : rd row b i = row[i] := by unfold rd; rw [List.getElem?_eq_getElem h]; rfl
abbrev Ya (a : La) (row : List Bool) : Prop := a.On (rd row a.base)
theorem Ya.scan {a : La} {row : List Bool} {s : Nat} (h : Ya a row) (hn : a.nxt = wnx s row.length) (hs : s < row.length) (hr : ∀ (i : Nat) (hi : i < row.length) (hi' : a.nxt i < row.length), row[i] = a.step i row[a.nxt i]) : ∀ (i : Nat) (h : i < row.length), row[i] = a.up (row.length + 1) i := by
 intro i hi
 have := La.On.scan (N := row.length) h (fun i hi => by
  have hx : a.nxt i < row.length := by rw [hn, wnx]; split <;> omega
  rw [Uw hi, Uw hx]; exact hr i hi hx) hn hs hi
 rw [Uw hi] at this
 exact this
def D1 (l : List Fo) (T : Nat → Nat → Bool) (i : Nat) : Nat → Int
 | 0 => 0
 | n + 1 => D1 l T i n + if Ao (AQ l n) ∧ T n i = true then 2 ^ Ay l n else 0
theorem GA (l : List Fo) (T : Nat → Nat → Bool) (i : Nat) : ∀ n, 0 ≤ D1 l T i n ∧ D1 l T i n < 2 ^ Ay l n
 | 0 => by simp [D1, Ay]
 | n + 1 => by
   have ih := GA l T i n
   have hp : (0 : Int) < 2 ^ Ay l n := by exact_mod_cast Nat.pow_pos (by decide)
   simp only [D1, Ay]
   by_cases c : Ao (AQ l n)
   · rw [if_pos c, Int.pow_succ]
     by_cases c2 : T n i = true
     · rw [if_pos ⟨c, c2⟩]; omega
     · rw [if_neg (fun h => c2 h.2)]; omega
   · rw [if_neg c, if_neg (fun h => c h.1)]; simpa using ih
theorem Y0 (A B : Nat → Bool) (nx : Nat → Nat) (i : Nat) (x : Bool) : (C8 17 A B nx).step i x = (A i || x) := by
 show (if A i = true then true else x) = _
 cases A i <;> simp
theorem ZH (A B : Nat → Bool) (nx : Nat → Nat) (i : Nat) (x : Bool) : (C8 18 A B nx).step i x = (A i && x) := by
 show (if (!A i) = true then false else x) = _
 cases A i <;> simp
theorem Zi (A B : Nat → Bool) (nx : Nat → Nat) (i : Nat) (x : Bool) : (C8 15 A B nx).step i x = (B i || (A i && x)) := by
 show (if (B i || !A i) = true then B i else x) = _
 cases A i <;> cases B i <;> simp
theorem Yu (A B : Nat → Bool) (nx : Nat → Nat) (i : Nat) (x : Bool) : (C8 16 A B nx).step i x = (B i && (A i || x)) := by
 show (if (!B i || A i) = true then B i else x) = _
 cases A i <;> cases B i <;> simp
structure Nx (f : Nat → Bool) (N i : Nat) (row : List Bool) : Prop where
 len : row.length = N
 done : ∀ (j : Nat) (h : j < row.length), j < i → row[j] = f j
 rest : ∀ (j : Nat) (h : j < row.length), i ≤ j → row[j] = false
theorem Nx.start (f : Nat → Bool) (N : Nat) : Nx f N 0 (List.replicate N false) := ⟨by simp, fun _ _ h => absurd h (Nat.not_lt_zero _), fun j h _ => by simp⟩
theorem Nx.next {f : Nat → Bool} {N i : Nat} {row : List Bool} (w : Nx f N i row) {x : Bool} (hx : f i = x) : Nx f N (i + 1) (row.set i x) := by
 refine ⟨by simp [w.len], fun j h hj => ?_, fun j h hj => ?_⟩
 · rw [List.getElem_set]
   split
   · rename_i e; subst e; exact hx.symm
   · exact w.done j (by simpa using h) (by omega)
 · rw [List.getElem_set, if_neg (by omega)]
   exact w.rest j (by simpa using h) (by omega)
theorem Nx.fin {f : Nat → Bool} {N : Nat} {row : List Bool} (w : Nx f N N row) : row = (List.range N).map f := YD w.len fun i h => w.done i h (by have := w.len; omega)
def Fh (l : List Fo) (al : List (List Bool)) (s i : Nat) : List AV := (List.range l.length).map fun j => if i ≤ j then .d (.l 1 1 ((EI l al s j).map Dq)) else .val (.slice none 0 0)
theorem Uh (l : List Fo) (al : List (List Bool)) (s i : Nat) : (Fh l al s i).length = l.length := by simp [Fh]
theorem Up {l : List Fo} {al : List (List Bool)} {s i j : Nat} (h : i ≤ j) (hj : j < l.length) : (Fh l al s i)[j]? = some (.d (.l 1 1 ((EI l al s j).map Dq))) := by
 unfold Fh
 rw [List.getElem?_map, List.getElem?_range hj]
 simp [h]
theorem Q8 (l : List Fo) (al : List (List Bool)) (s : Nat) : Fh l al s l.length = List.replicate l.length (.val (.slice none 0 0)) := by
 refine List.ext_getElem (by simp [Fh]) fun j h _ => ?_
 have : j < l.length := by simpa [Fh] using h
 simp [Fh]; omega
theorem VA {l : List Fo} {al : List (List Bool)} {s i : Nat} (hi : i < l.length) : (Fh l al s (i + 1)).set i (.d (.l 1 1 ((EI l al s i).map Dq))) = Fh l al s i := by
 refine List.ext_getElem (by simp [Fh]) fun j h1 h2 => ?_
 rw [List.getElem_set]
 simp only [Fh, List.getElem_map, List.getElem_range]
 by_cases e : i = j
 · subst e; rw [if_pos rfl, if_pos (Nat.le_refl _)]
 · rw [if_neg e]
   by_cases c : i ≤ j
   · rw [if_pos (by omega), if_pos c]
   · rw [if_neg (by omega), if_neg c]
theorem Cvs.at (v : Value) (d : D) : ∀ (R : List AV) (i : Nat), Cvs v d (R.set i (.val v)) (R.set i (.d d))
 | [], _ => .nil
 | x :: R, 0 => .cons .here (Cvs.refl v d R)
 | x :: R, i + 1 => .cons (.same x) (Cvs.at v d R i)
theorem ZO {a b : Nat} (h : a < b) : Nat.blt a b = true := by rw [Nat.blt_eq]; exact h

theorem KE (n : Int) : ∀ (l : List Ru), EE n l = 0 → ∀ r ∈ l, Dv r n = 0
 | [], _, r, hr => by cases hr
 | r :: l, h, q, hq => by
   rw [EE] at h
   by_cases c : Dv r n ≠ 0
   · rw [if_pos c] at h; exact absurd h c
   · rw [if_neg c] at h
     rcases List.mem_cons.1 hq with rfl | hq
     · exact Decidable.not_not.1 c
     · exact KE n l h q hq
theorem LK (n : Int) : ∀ (l : List St) (seen : List Int), HC n l seen = 0 → (∀ s ∈ l, 0 ≤ s.var ∧ s.var < n ∧ Ca s.val n false = 0 ∧ s.var ∉ seen) ∧ (l.map St.var).Nodup
 | [], _, _ => ⟨fun s hs => (by cases hs), List.nodup_nil⟩
 | s :: l, seen, h => by
   rw [HC] at h
   by_cases c1 : ¬ (0 ≤ s.var ∧ s.var < n)
   · rw [if_pos c1] at h; exact absurd h (by decide)
   rw [if_neg c1] at h
   by_cases c2 : s.var ∈ seen
   · rw [if_pos c2] at h; exact absurd h (by decide)
   rw [if_neg c2] at h
   by_cases c3 : Ca s.val n false ≠ 0
   · rw [if_pos c3] at h; exact absurd h c3
   rw [if_neg c3] at h
   obtain ⟨i1, i2⟩ := LK n l _ h
   refine ⟨fun q hq => ?_, ?_⟩
   · rcases List.mem_cons.1 hq with rfl | hq
     · exact ⟨by omega, by omega, Decidable.not_not.1 c3, c2⟩
     · obtain ⟨a, b, c, d⟩ := i1 q hq
       exact ⟨a, b, c, fun hm => d (List.mem_append_left _ hm)⟩
   · rw [List.map_cons, List.nodup_cons]
     refine ⟨fun hm => ?_, i2⟩
     obtain ⟨q, hq, he⟩ := List.mem_map.1 hm
     exact (i1 q hq).2.2.2 (he ▸ List.mem_append_right _ (List.mem_singleton.2 rfl))
structure aD (r : Ru) (n : Nat) : Prop where
 guard : CY r.guard n = (true, 0)
 few : r.sets.length ≤ 6
 sets : ∀ s ∈ r.sets, 0 ≤ s.var ∧ s.var < n ∧ (CY s.val n).2 = 0
 once : (r.sets.map St.var).Nodup
theorem PM {l : List Fo} {n : Int} {t : Bool} (h : Ca l n t = 0) : CY l n = (t, 0) := by
 unfold Ca at h
 by_cases c : (CY l n).2 ≠ 0
 · rw [if_pos c] at h; exact absurd h c
 rw [if_neg c] at h
 by_cases c2 : (CY l n).1 ≠ t
 · rw [if_pos c2] at h; exact absurd h (by decide)
 · exact Prod.ext (Decidable.not_not.1 c2) (Decidable.not_not.1 c)
theorem Vl {m : Md} (h : AU m = 0) {r : Ru} (hr : r ∈ m.rules) : aD r m.vars.length := by
 have hv := BM h
 unfold AU at h
 rw [if_neg (fun k => k hv)] at h
 by_cases c : 12 < m.rules.length
 · rw [if_pos c] at h; exact absurd h (by decide)
 rw [if_neg c] at h
 have hf := KE _ _ h r hr
 unfold Dv at hf
 by_cases c1 : 6 < r.sets.length
 · rw [if_pos c1] at hf; exact absurd hf (by decide)
 rw [if_neg c1] at hf
 by_cases c2 : Ca r.guard m.vars.length true ≠ 0
 · rw [if_pos c2] at hf; exact absurd hf c2
 rw [if_neg c2] at hf
 obtain ⟨i1, i2⟩ := LK _ _ _ hf
 exact ⟨PM (Decidable.not_not.1 c2), by omega, fun s hs => ⟨(i1 s hs).1, (i1 s hs).2.1, by rw [PM (i1 s hs).2.2.1]⟩, i2⟩
def HF (m : Md) (vs : List Int) (s : St) : Prop := (BP s.val vs).2 = 0 ∧ ∀ v, m.vars[s.var.toNat]? = some v → v.low ≤ (BP s.val vs).1 ∧ (BP s.val vs).1 ≤ v.high
def B1 (vs : List Int) : List St → List Int → List Int
 | [], out => out
 | s :: l, out => B1 vs l (out.set s.var.toNat (BP s.val vs).1)
theorem Cz (vs : List Int) : ∀ (l : List St) (out : List Int), (B1 vs l out).length = out.length
 | [], _ => rfl
 | s :: l, out => by rw [B1, Cz vs l, List.length_set]
noncomputable instance (m : Md) (vs : List Int) (s : St) : Decidable (HF m vs s) := Classical.propDecidable _
noncomputable def Bw (m : Md) (r : Ru) (vs : List Int) : Option (List Int) :=
 if BP r.guard vs = (1, 0) ∧ ∀ s ∈ r.sets, HF m vs s then some (B1 vs r.sets vs) else none
noncomputable def F8 (m : Md) (code DP : Int) : Int × Int :=
 if (BL m code).2 ≠ 0 then (0, (BL m code).2)
 else match (if 0 ≤ DP then m.rules[DP.toNat]? else none) with
  | none => (0, 2)
  | some r => match Bw m r (BL m code).1 with
    | none => (0, 11)
    | some out => codeF m out
theorem Tj {l : List Fo} {vs : List Int} (h : CY l vs.length = (true, 0)) (hv : ∀ v ∈ vs, AY v) : BP l vs = (0, 8) ∨ BP l vs = (0, 0) ∨ BP l vs = (1, 0) := by
 have h0 : (CY l vs.length).2 = 0 := by rw [h]
 obtain ⟨g, _, _⟩ := Lc h0
 unfold BP
 rw [if_neg (fun k => k h0), if_pos hv]
 unfold wk
 cases hx : Bc l vs 0 with
 | none => exact .inl rfl
 | some n =>
   have hk : De (AQ l 0) := by
    have := h
    unfold CY at this
    by_cases c1 : (vs.length : Int) < 0 ∨ 6 < (vs.length : Int)
    · rw [if_pos c1] at this; exact absurd this (by simp)
    rw [if_neg c1, if_neg (fun k => k g.ends)] at this
    by_cases c2 : Hi l vs.length ≠ 0
    · rw [if_pos c2] at this; exact absurd (Prod.mk.inj this).1 (by simp)
    rw [if_neg c2, if_pos g.typed] at this
    exact of_decide_eq_true (Prod.mk.inj this).1
   rcases NO g.pos hk hx with rfl | rfl
   · exact .inr (.inl rfl)
   · exact .inr (.inr rfl)
def upd (vs : List Int) : List St → Nat → Int → Int
 | [], _, x => x
 | s :: l, i, x => upd vs l i (if s.var.toNat = i then (BP s.val vs).1 else x)
theorem Gf (vs : List Int) : ∀ (l : List St) (out : List Int) (i : Nat), (B1 vs l out)[i]? = (out[i]?).map (upd vs l i)
 | [], out, i => by simp [B1, upd, Option.map_id']
 | s :: l, out, i => by
   rw [B1, Gf vs l, List.getElem?_set]
   by_cases e : s.var.toNat = i
   · subst e
     rw [if_pos rfl]
     by_cases h : s.var.toNat < out.length
     · rw [if_pos h, List.getElem?_eq_getElem h]; simp [upd]
     · rw [if_neg h, List.getElem?_eq_none (by omega)]; rfl
   · rw [if_neg e]
     cases out[i]? with
     | none => rfl
     | some x => simp [upd, e]
theorem Vy (vs : List Int) : ∀ (l : List St) (i : Nat) (x : Int), (∀ s ∈ l, s.var.toNat ≠ i) → upd vs l i x = x
 | [], _, _, _ => rfl
 | s :: l, i, x, h => by
   rw [upd, if_neg (h s List.mem_cons_self)]
   exact Vy vs l i x fun q hq => h q (List.mem_cons_of_mem _ hq)
theorem R8 (vs : List Int) : ∀ (l : List St) (i : Nat) (x : Int) (s : St), (∀ q ∈ l, 0 ≤ q.var) → (l.map St.var).Nodup → s ∈ l → s.var.toNat = i → upd vs l i x = (BP s.val vs).1
 | [], _, _, _, _, _, h, _ => by cases h
 | q :: l, i, x, s, h0, hn, hm, he => by
   rw [List.map_cons, List.nodup_cons] at hn
   rw [upd]
   by_cases e : q = s
   · subst e
     rw [if_pos he]
     refine Vy vs l i _ fun r hr hre => hn.1 (List.mem_map.2 ⟨r, hr, ?_⟩)
     have h1 := h0 r (List.mem_cons_of_mem _ hr)
     have h2 := h0 q List.mem_cons_self
     omega
   · exact R8 vs l i _ s (fun r hr => h0 r (List.mem_cons_of_mem _ hr)) hn.2 (by
      rcases List.mem_cons.1 hm with h | h
      · exact absurd h.symm e
      · exact h) he
theorem RD (vs : List Int) : ∀ (l : List St) (i : Nat) (x : Int), upd vs l i x = x ∨ ∃ s ∈ l, s.var.toNat = i ∧ upd vs l i x = (BP s.val vs).1
 | [], _, _ => .inl rfl
 | s :: l, i, x => by
   rw [upd]
   by_cases e : s.var.toNat = i
   · rw [if_pos e]
     rcases RD vs l i (BP s.val vs).1 with h | ⟨q, h1, h2, h3⟩
     · exact .inr ⟨s, List.mem_cons_self, e, h⟩
     · exact .inr ⟨q, List.mem_cons_of_mem _ h1, h2, h3⟩
   · rw [if_neg e]
     rcases RD vs l i x with h | ⟨q, h1, h2, h3⟩
     · exact .inl h
     · exact .inr ⟨q, List.mem_cons_of_mem _ h1, h2, h3⟩
theorem Jt : ∀ (l : List Vr) (xs : List Int) (n : Int), (∀ (i : Nat) (h : i < l.length) (h' : i < xs.length), l[i].low ≤ xs[i] ∧ xs[i] ≤ l[i].high) → (C7 n l xs).2 = 0
 | [], xs, n, _ => by simp [C7]
 | v :: l, [], n, _ => by simp [C7]
 | v :: l, x :: xs, n, h => by
   have h0 : v.low ≤ x ∧ x ≤ v.high := h 0 (by simp) (by simp)
   rw [C7, if_pos h0]
   exact Jt l xs _ fun i h1 h2 => h (i + 1) (by simpa using h1) (by simpa using h2)
theorem PS : ∀ (l : List Vr) (xs : List Int) (n : Int) (i : Nat) (h : i < l.length) (h' : i < xs.length), ¬ (l[i].low ≤ xs[i] ∧ xs[i] ≤ l[i].high) → C7 n l xs = (0, 9)
 | [], _, _, _, h, _, _ => by simp at h
 | v :: l, [], _, _, _, h', _ => by simp at h'
 | v :: l, x :: xs, n, 0, _, _, hc => by
   have hc' : ¬ (v.low ≤ x ∧ x ≤ v.high) := hc
   rw [C7, if_neg hc']
 | v :: l, x :: xs, n, i + 1, h, h', hc => by
   rw [C7]
   split
   · exact PS l xs _ i (by simpa using h) (by simpa using h') (by simpa using hc)
   · rfl
theorem Ow {l : List Vr} (g : IC l) {c : Int} (h0 : 0 ≤ c) (hc : c < AS l) (i : Nat) (h : i < l.length) (h' : i < (Bt l c).length) : l[i].low ≤ (Bt l c)[i] ∧ (Bt l c)[i] ≤ l[i].high := by
 rw [Js l c i (fun v hv => (g.span v hv).1) h0 hc h h']
 have hs := (g.span l[i] (List.getElem_mem h)).1
 have m1 := Int.emod_nonneg (c / AS (l.drop (i + 1))) (show BJ l[i] ≠ 0 by omega)
 have m2 := Int.emod_lt_of_pos (c / AS (l.drop (i + 1))) (show 0 < BJ l[i] by omega)
 unfold BJ at m1 m2 ⊢
 omega
def Yd (vs : List Int) (p : List Fo) : Bool := decide ((BP p vs).2 = 0) && decide ((BP p vs).1 = 1)
abbrev IB (l : List (List Fo)) (vs : List Int) (i : Nat) : Bool := Yd vs ((l[i]?).getD [])
noncomputable def EU (m : Md) (l : List (List Fo)) (c : Int) : List Bool × Int :=
 if B3 m l ≠ 0 then ([], B3 m l) else if (BL m c).2 ≠ 0 then ([], (BL m c).2) else ((List.range l.length).map (IB l (BL m c).1), 0)
theorem PR {l : List (List Fo)} {vs : List Int} {i : Nat} (h : i < l.length) {n e : Int} (he : BP l[i] vs = (n, e)) : IB l vs i = (decide (e = 0) && decide (n = 1)) := by
 rw [IB, List.getElem?_eq_getElem h, Option.getD_some, Yd, he]
theorem Iq {m : Md} {l : List (List Fo)} (h : B3 m l = 0) : AU m = 0 ∧ l.length ≤ 6 := by
 unfold B3 at h
 by_cases c1 : AU m ≠ 0
 · rw [if_pos c1] at h; exact absurd h c1
 rw [if_neg c1] at h
 by_cases c2 : 6 < l.length
 · rw [if_pos c2] at h; exact absurd h (by decide)
 · exact ⟨Decidable.not_not.1 c1, by omega⟩
end Go.Sp
namespace Go.Proofs.YtibahljljjkceaaGreatDoor
open Go Go.Av Go.Sp
theorem Gv : Cal Tryz.prog 58 := Cal.of Tryz.func58 (by kernel_rfl) (by kernel_rfl)
theorem Cr : Cal Tryz.prog 42 := Cal.of Tryz.func42 (by kernel_rfl) (by kernel_rfl)
theorem OR (m : Md) (l : List (List Fo)) (c : Int) : ACr Tryz.prog GP 58 [mdA m, .d (Aw l), .int c] (.tup [.d (Ai (EU m l c).1), .int (EU m l c).2]) := by
 have hP := Yg m l
 have hV := Vo m c
 have hfew := Iq (m := m) (l := l)
 unfold EU
 generalize B3 m l = e1 at hP hfew ⊢
 generalize BL m c = q at hV ⊢
 obtain ⟨vs, e2⟩ := q
 dsimp only at hV ⊢
 refine AN (ts := [6, 7]) Tryz.f58.ntmps Tryz.func58 rfl rfl rfl (by simp [Tryz.ntmps58]) fun W I => ?_
 by_cases h1 : e1 ≠ 0
 · repeat' (first
    | refine ca GS (hP) ?_
    | refine ca EC (hV) ?_
    | exact True.intro | refine AD ?_ | refine two ?_ ?_ | refine AB fun c_ => ?_
    | (refine imp fun hc => ?_) <;> try exact cx1 hc
    | refine all fun v_ => ?_)
   refine AH (VS.trans (VS.drop (List.nil_sublist _)) (Cn (t := 6) 1 1 rfl)) ?_
   ((with_reducible apply rq2); rfl; rfl; rfl)
   refine AA ?_
   rw [if_pos h1]; rfl
 rw [if_neg h1]
 replace h1 := Decidable.not_not.1 h1
 obtain ⟨_, hl6⟩ := hfew h1
 by_cases h2 : e2 ≠ 0
 · repeat' (first
    | refine ca GS (hP) ?_
    | refine ca EC (hV) ?_
    | exact True.intro | refine AD ?_ | refine two ?_ ?_ | refine AB fun c_ => ?_
    | (refine imp fun hc => ?_) <;> try exact cx1 hc
    | refine all fun v_ => ?_)
   refine AH (VS.trans (VS.drop (List.nil_sublist _)) (Cn (t := 6) 1 1 rfl)) ?_
   ((with_reducible apply rq2); rfl; rfl; rfl)
   refine AA ?_
   rw [if_pos h2]; rfl
 rw [if_neg h2]
 repeat' (first
  | refine ca GS (hP) ?_
  | refine ca EC (hV) ?_
  | exact True.intro | refine AD ?_ | refine two ?_ ?_ | refine AB fun c_ => ?_
  | (refine imp fun hc => ?_) <;> try exact cx1 hc
  | refine all fun v_ => ?_)
 refine AG (X := Nat × List Bool) (fun y => [(9, .d (AK vs)), (11, .val (.slice (some ⟨v_, 0, none⟩) l.length l.length)), (34, .d (Aw l)), (35, .int l.length), (36, .int y.1)]) (fun y => [.cells v_ 4 (y.2.map AV.bool)]) (fun y => y.1 ≤ l.length ∧ Nx (IB l vs) l.length y.1 y.2) (fun y => l.length - y.1) (0, List.replicate l.length false) ⟨Nat.zero_le _, Nx.start _ _⟩ (VS.take (by exact AI) ?_) ?_
 · exact leD
 rintro ⟨i, row⟩ ⟨d1, d2⟩
 dsimp only at d1 d2 ⊢
 have dl := d2.len
 by_cases hi : i < l.length
 · have hE := Eval l[i] vs
   have hx := fun n e he => PR (vs := vs) hi (n := n) (e := e) he
   generalize BP l[i] vs = q at hE hx
   obtain ⟨n, e⟩ := q
   dsimp only at hE
   have hx := hx n e rfl
   repeat' (first
    | refine ca EY (hE) ?_
    | exact True.intro | refine AD ?_ | refine two ?_ ?_ | refine AB fun c_ => ?_
    | (refine imp fun hc => ?_) <;> try exact cx1 hc
    | refine all fun v_ => ?_)
   all_goals
    refine ⟨(i + 1, row.set i _), ⟨by dsimp only; omega, d2.next ?_⟩, by dsimp only; omega, VS.of_le ?_⟩
    rotate_left
    · exact leD
    rw [hx]; simp_all
 obtain rfl : i = l.length := by omega
 have hr := d2.fin
 repeat' (first
  | exact True.intro | refine AD ?_ | refine two ?_ ?_ | refine AB fun c_ => ?_
  | (refine imp fun hc => ?_) <;> try exact cx1 hc
  | refine all fun v_ => ?_)
 refine AH (vfz (t := 6) (f := Dq) (h1 := []) 1 1 rfl rfl rfl (FV row) dl (fun _ => rfl) (by omega) (by omega)) ?_
 ((with_reducible apply rq2); rfl; rfl; rfl)
 refine AA ?_
 rw [hr]
theorem Ff (G : List (Nat × List D)) (m : Md) (l : List (List Fo)) (c : Int) : ACr Tryz.prog G 42 [mdA m, .d (Aw l), .int c] (.tup [.d (Ai (EU m l c).1), .int (EU m l c).2]) := by
 have hP := Lg G m l
 have hV := PK G m c
 have hfew := Iq (m := m) (l := l)
 unfold EU
 generalize B3 m l = e1 at hP hfew ⊢
 generalize BL m c = q at hV ⊢
 obtain ⟨vs, e2⟩ := q
 dsimp only at hV ⊢
 refine AN (ts := [6, 7]) Tryz.f42.ntmps Tryz.func42 rfl rfl rfl (by simp [Tryz.ntmps42]) fun W I => ?_
 by_cases h1 : e1 ≠ 0
 · repeat' (first
    | refine ca DE (hP) ?_
    | refine ca CQ (hV) ?_
    | exact True.intro | refine AD ?_ | refine two ?_ ?_ | refine AB fun c_ => ?_
    | (refine imp fun hc => ?_) <;> try exact cx1 hc
    | refine all fun v_ => ?_)
   refine AH (VS.trans (VS.drop (List.nil_sublist _)) (Cn (t := 6) 1 1 rfl)) ?_
   ((with_reducible apply rq2); rfl; rfl; rfl)
   refine AA ?_
   rw [if_pos h1]; rfl
 rw [if_neg h1]
 replace h1 := Decidable.not_not.1 h1
 obtain ⟨_, hl6⟩ := hfew h1
 by_cases h2 : e2 ≠ 0
 · repeat' (first
    | refine ca DE (hP) ?_
    | refine ca CQ (hV) ?_
    | exact True.intro | refine AD ?_ | refine two ?_ ?_ | refine AB fun c_ => ?_
    | (refine imp fun hc => ?_) <;> try exact cx1 hc
    | refine all fun v_ => ?_)
   refine AH (VS.trans (VS.drop (List.nil_sublist _)) (Cn (t := 6) 1 1 rfl)) ?_
   ((with_reducible apply rq2); rfl; rfl; rfl)
   refine AA ?_
   rw [if_pos h2]; rfl
 rw [if_neg h2]
 repeat' (first
  | refine ca DE (hP) ?_
  | refine ca CQ (hV) ?_
  | exact True.intro | refine AD ?_ | refine two ?_ ?_ | refine AB fun c_ => ?_
  | (refine imp fun hc => ?_) <;> try exact cx1 hc
  | refine all fun v_ => ?_)
 refine AG (X := Nat × Sl) (fun y => [(1, .d (Aw l)), (9, .d (AK vs)), (10, .val y.2.v), (11, .int y.1)]) (fun y => [AM y.2.v 4 1 Dq ((List.range y.1).map (IB l vs))]) (fun y => y.1 ≤ l.length) (fun y => l.length - y.1) (0, Sl.nil) (Nat.zero_le _) (VS.trans (VS.nilrow 4 1) (VS.take (by exact AI) ?_)) ?_
 · exact leD
 rintro ⟨i, q⟩ hi
 dsimp only at hi ⊢
 have hlj : ((List.range i).map (IB l vs)).length = i := by simp
 by_cases hil : i < l.length
 · have hE := Ji G l[i] vs
   have hx := fun n e he => PR (vs := vs) hil (n := n) (e := e) he
   generalize BP l[i] vs = q at hE hx
   obtain ⟨n, e⟩ := q
   dsimp only at hE
   have hx := hx n e rfl
   have hsn : ∀ b, IB l vs i = b → (List.range i).map (IB l vs) ++ [b] = (List.range (i + 1)).map (IB l vs) := fun b hb => by rw [← hb]; simp [List.range_succ]
   repeat' (first
    | refine ca C1 (hE) ?_
    | exact True.intro | refine AD ?_ | refine two ?_ ?_ | refine AB fun c_ => ?_
    | (refine imp fun hc => ?_) <;> try exact cx1 hc
    | refine all fun v_ => ?_)
   all_goals
    rw [hsn _ (by rw [hx]; simp_all)]
    refine ⟨(i + 1, v_), by dsimp only; omega, by dsimp only; omega, VS.of_le ?_⟩
    exact leD
 obtain rfl : i = l.length := by omega
 repeat' (first
  | exact True.intro | refine AD ?_ | refine two ?_ ?_ | refine AB fun c_ => ?_
  | (refine imp fun hc => ?_) <;> try exact cx1 hc
  | refine all fun v_ => ?_)
 refine AH (Bf (t := 6) (eb := 1) rfl rfl (fun x => rfl) (by rw [hlj]; omega)) ?_
 ((with_reducible apply rq2); rfl; rfl; rfl)
 exact AA rfl
end Go.Proofs.YtibahljljjkceaaGreatDoor
namespace Go.Sp
open Go Go.Av
def inits (m : Md) : List Int := m.vars.map Vr.init
end Go.Sp
namespace Go.Proofs.YtibahljljjkceaaGreatDoor
open Go Go.Av Go.Sp

theorem UF : Cal Tryz.prog 98 := Cal.of Tryz.func98 (by kernel_rfl) (by kernel_rfl)
theorem F4 : Cal Tryz.prog 39 := Cal.of Tryz.func39 (by kernel_rfl) (by kernel_rfl)
theorem Z0 (m : Md) : ACr Tryz.prog GP 98 [mdA m] (.tup [.int (codeF m (inits m)).1, .int (codeF m (inits m)).2]) := by
 refine AC.factI (f := Vr.cells) (xs := m.vars) (.agg .here) fun hlv => ?_
 refine AN (ts := [2, 3]) Tryz.f98.ntmps Tryz.func98 rfl rfl rfl (by simp [Tryz.ntmps98]) fun W I => ?_
 have hin : (inits m).length = m.vars.length := by simp [inits]
 repeat' (first
  | exact True.intro | refine AD ?_ | refine two ?_ ?_ | refine AB fun c_ => ?_
  | (refine imp fun hc => ?_) <;> try exact cx1 hc
  | refine all fun v_ => ?_)
 obtain ⟨bm, rfl⟩ : ∃ x, x = v_ := ⟨v_, rfl⟩
 refine C4 (E := 3) (sz := 1) AW ?_
 refine AG (X := Nat × Sl) (fun y => [(1, .val (.pointer (some ⟨bm, 0, none⟩))), (4, .val y.2.v), (8, .d (Aq m.vars)), (9, .int m.vars.length), (10, .int y.1)]) (fun y => [AM y.2.v 3 1 AW ((inits m).take y.1), .cells bm 25 [.d (Aq m.vars), .d (Ad m.rules)]]) (fun y => y.1 ≤ m.vars.length) (fun y => m.vars.length - y.1) (0, Sl.nil) (Nat.zero_le _) (VS.of_le ?_) ?_
 · exact leD
 rintro ⟨i, q⟩ h1
 dsimp only at h1 ⊢
 have hlen : ((inits m).take i).length = i := by rw [List.length_take]; omega
 by_cases hi : i < m.vars.length
 · have et : (inits m).take i ++ [m.vars[i].init] = (inits m).take (i + 1) := by rw [List.take_succ_eq_append_getElem (by omega)]; simp [inits]
   repeat' (first
    | exact True.intro | refine AD ?_ | refine two ?_ ?_ | refine AB fun c_ => ?_
    | (refine imp fun hc => ?_) <;> try exact cx1 hc
    | refine all fun v_ => ?_)
   refine ⟨(i + 1, v_), by dsimp only; omega, by dsimp only; omega, ?_⟩
   dsimp only
   rw [← et]
   refine VS.take (by exact AI) ?_
   exact leD
 obtain rfl : i = m.vars.length := by omega
 rw [List.take_of_length_le (by omega)]
 refine Ho (Gj (h1 := []) (h' := [.cells bm 25 [.d (Aq m.vars), .d (Ad m.rules)]]) 8 rfl rfl (fun _ => rfl) (by omega) (CvE.cons (t := 4) rfl .here (CvE.refl _ _ _)) (CvH.refl _)) ?_
 repeat' (first
  | refine ca Pa (Code _ _) ?_
  | exact True.intro | refine AD ?_ | refine two ?_ ?_ | refine AB fun c_ => ?_
  | (refine imp fun hc => ?_) <;> try exact cx1 hc
  | refine all fun v_ => ?_)
 refine AH (VS.drop (List.nil_sublist _)) ?_
 ((with_reducible apply rq2); rfl; rfl; rfl)
 exact AA rfl
theorem Jo (G : List (Nat × List D)) (m : Md) : ACr Tryz.prog G 39 [mdA m] (.tup [.int (codeF m (inits m)).1, .int (codeF m (inits m)).2]) := by
 refine AC.factI (f := Vr.cells) (xs := m.vars) (.agg .here) fun hlv => ?_
 refine AN (ts := [2, 3]) Tryz.f39.ntmps Tryz.func39 rfl rfl rfl (by simp [Tryz.ntmps39]) fun W I => ?_
 have hin : (inits m).length = m.vars.length := by simp [inits]
 repeat' (first
  | exact True.intro | refine AD ?_ | refine two ?_ ?_ | refine AB fun c_ => ?_
  | (refine imp fun hc => ?_) <;> try exact cx1 hc
  | refine all fun v_ => ?_)
 obtain ⟨bm, rfl⟩ : ∃ x, x = v_ := ⟨v_, rfl⟩
 refine C4 (E := 3) (sz := 1) AW ?_
 refine AG (X := Nat × Sl) (fun y => [(1, .val (.pointer (some ⟨bm, 0, none⟩))), (4, .val y.2.v), (5, .int y.1)]) (fun y => [AM y.2.v 3 1 AW ((inits m).take y.1), .cells bm 25 [.d (Aq m.vars), .d (Ad m.rules)]]) (fun y => y.1 ≤ m.vars.length) (fun y => m.vars.length - y.1) (0, Sl.nil) (Nat.zero_le _) (VS.of_le ?_) ?_
 · exact leD
 rintro ⟨i, q⟩ h1
 dsimp only at h1 ⊢
 have hlen : ((inits m).take i).length = i := by rw [List.length_take]; omega
 by_cases hi : i < m.vars.length
 · have et : (inits m).take i ++ [m.vars[i].init] = (inits m).take (i + 1) := by rw [List.take_succ_eq_append_getElem (by omega)]; simp [inits]
   repeat' (first
    | exact True.intro | refine AD ?_ | refine two ?_ ?_ | refine AB fun c_ => ?_
    | (refine imp fun hc => ?_) <;> try exact cx1 hc
    | refine all fun v_ => ?_)
   refine ⟨(i + 1, v_), by dsimp only; omega, by dsimp only; omega, ?_⟩
   dsimp only
   rw [← et]
   refine VS.take (by exact AI) ?_
   exact leD
 obtain rfl : i = m.vars.length := by omega
 rw [List.take_of_length_le (by omega)]
 refine Ho (Gj (h1 := []) (h' := [.cells bm 25 [.d (Aq m.vars), .d (Ad m.rules)]]) 8 rfl rfl (fun _ => rfl) (by omega) (CvE.cons (t := 4) rfl .here (CvE.refl _ _ _)) (CvH.refl _)) ?_
 repeat' (first
  | refine ca IT (Wc _ _ _) ?_
  | exact True.intro | refine AD ?_ | refine two ?_ ?_ | refine AB fun c_ => ?_
  | (refine imp fun hc => ?_) <;> try exact cx1 hc
  | refine all fun v_ => ?_)
 refine AH (VS.drop (List.nil_sublist _)) ?_
 ((with_reducible apply rq2); rfl; rfl; rfl)
 exact AA rfl
end Go.Proofs.YtibahljljjkceaaGreatDoor
