/-
  PLAIN, NO PROGRAM: the stack machine works an expression off from its end.
-/
import Derived.Test.YtacdheachjnejaaDoorG9
namespace Go.Sp
open Go Go.Av
set_option linter.unusedVariables false
set_option linter.unusedSimpArgs false

abbrev bitP (a : Int) : Prop := a = 0 ∨ a = 1
/-- What one op does to the stack. -/
def Doing (k v : Int) (env S base : List Int) (n : Int) : Prop :=
  (S = base ∧ ((k = 1 ∧ n = v ∧ limP v) ∨ (k = 11 ∧ n = 1) ∨ (k = 12 ∧ n = 0))) ∨ (S = base ∧ k = 2 ∧ 0 ≤ v ∧ ∃ h : v.toNat < env.length, n = env[v.toNat]) ∨ (k = 10 ∧ ∃ a, S = base ++ [a] ∧ bitP a ∧ n = 1 - a) ∨
  (∃ a b, S = base ++ [b] ++ [a] ∧ limP a ∧ limP b ∧ ((k = 3 ∧ n = a + b) ∨ (k = 4 ∧ n = a - b) ∨ (k = 5 ∧ n = a * b) ∨ (k = 6 ∧ n = if decide (a = b) = true then 1 else 0) ∨ (k = 7 ∧ n = if decide (a < b) = true then 1 else 0) ∨ (k = 8 ∧ bitP a ∧ bitP b ∧ n = bits .and .i64 a b) ∨ (k = 9 ∧ bitP a ∧ bitP b ∧ n = bits .or .i64 a b)))
theorem parts_0 {k : Int} (h : 1 ≤ k ∧ k ≤ 12) (hp : (partsOf k).1 = 0) : k = 1 ∨ k = 2 ∨ k = 11 ∨ k = 12 := by
  unfold partsOf at hp
  split at hp
  · omega
  split at hp
  · exact absurd hp (by decide)
  split at hp
  · exact absurd hp (by decide)
  · omega
theorem parts_1 {k : Int} (h : 1 ≤ k ∧ k ≤ 12) (hp : (partsOf k).1 = 1) : k = 10 := by
  unfold partsOf at hp
  split at hp
  · exact absurd hp (by decide)
  split at hp
  · omega
  split at hp
  · exact absurd hp (by decide)
  · exact absurd hp (by decide)
theorem parts_2 {k : Int} (h : 1 ≤ k ∧ k ≤ 12) (hp : (partsOf k).1 = 2) : 3 ≤ k ∧ k ≤ 9 := by
  unfold partsOf at hp
  split at hp
  · exact absurd hp (by decide)
  split at hp
  · exact absurd hp (by decide)
  split at hp
  · omega
  · exact absurd hp (by decide)
theorem Stk.len {l : List Fo} {f : Nat → Int} (hw : ∀ (i : Nat) (_ : i < l.length), (endOf l i).2 = 0) {i : Nat} {S : List Int} (h : Stk l f i S) : i ≤ l.length → S.length + i ≤ l.length := by
  induction h with
  | nil h => intro hi; simpa using hi
  | @cons i S hi h ih =>
    intro _
    have hb := endOf_bound l i (hw i hi)
    have := ih (by omega)
    simp
    omega
/-- The value that a place has, where it has one. -/
abbrev evF (l : List Fo) (env : List Int) (i : Nat) : Int := (evAt l env i).getD 0
theorem evF_eq {l : List Fo} {env : List Int} {i : Nat} (h : (evAt l env i).isSome) : evAt l env i = some (evF l env i) := by
  obtain ⟨v, hv⟩ := Option.isSome_iff_exists.1 h
  rw [evF, hv]; rfl
theorem Stk.put {l : List Fo} {env : List Int} {m : Nat} {base : List Int} {n : Int} (hm : m < l.length) (hn : evAt l env m = some n) (hS : Stk l (evF l env) (endOf l m).1.toNat base) : Stk l (evF l env) m (base ++ [n]) := by
  have : evF l env m = n := by rw [evF, hn]; rfl
  rw [← this]
  exact .cons hm hS
theorem ovr_some {n : Int} (h : limP n) : ovr n = some n := if_pos h
theorem ovr_none {n : Int} (h : ¬ limP n) : ovr n = none := if_neg h
theorem Stk.step {l : List Fo} {env : List Int} (g : GoodE l env.length) (henv : ∀ v ∈ env, limP v) {m : Nat} (hm : m < l.length) {S : List Int} (hS : Stk l (evF l env) (m + 1) S) (hv : ∀ j, m < j → j < l.length → (evAt l env j).isSome) :
    ∃ base n, Doing l[m].kind l[m].val env S base n ∧ (limP n → evAt l env m = some n ∧ Stk l (evF l env) m (base ++ [n])) ∧ (¬ limP n → evAt l env m = none) := by
  obtain ⟨k1, k2, k3, k4⟩ := g.kind hm
  have hkm := kindAt_eq l m hm
  have hvm := valAt_eq l m hm
  have ev := evAt_eq l env m hm
  unfold stepE at ev
  rw [hkm, hvm] at ev
  -- what a value and where the stack stands behind it come to
  have fin : ∀ base n, evAt l env m = ovr n → Stk l (evF l env) (endOf l m).1.toNat base → (limP n → evAt l env m = some n ∧ Stk l (evF l env) m (base ++ [n])) ∧ (¬ limP n → evAt l env m = none) := fun base n h hb =>
    ⟨fun hl => ⟨by rw [h, ovr_some hl], Stk.put hm (by rw [h, ovr_some hl]) hb⟩, fun hl => by rw [h, ovr_none hl]⟩
  rcases g.parts hm with ⟨n0, e0⟩ | ⟨n1, p1, e1⟩ | ⟨n2, p1, p2, p3, p4, e2⟩
  · rw [n0] at ev
    have ev' : evAt l env m = ovr (opV l[m].kind l[m].val env 0 0) := ev
    have hS' : Stk l (evF l env) (endOf l m).1.toNat S := by rw [e0, show ((m : Int) + 1).toNat = m + 1 by omega]; exact hS
    have hk := parts_0 ⟨k1, k2⟩ (by rw [← hkm]; exact n0)
    rcases hk with h | h | h | h
    · refine ⟨S, l[m].val, .inl ⟨rfl, .inl ⟨h, rfl, by have := k3 h; unfold limP; omega⟩⟩, fin S _ (by rw [ev', h]; rfl) hS'⟩
    · have := k4 h
      have hlt : l[m].val.toNat < env.length := by omega
      refine ⟨S, env[l[m].val.toNat], .inr (.inl ⟨rfl, h, this.1, hlt, rfl⟩), fin S _ (by rw [ev', h]; simp [opV, hlt]) hS'⟩
    · refine ⟨S, 1, .inl ⟨rfl, .inr (.inl ⟨h, rfl⟩)⟩, fin S _ (by rw [ev', h]; rfl) hS'⟩
    · refine ⟨S, 0, .inl ⟨rfl, .inr (.inr ⟨h, rfl⟩)⟩, fin S _ (by rw [ev', h]; rfl) hS'⟩
  · rw [n1] at ev
    obtain ⟨S', rfl, hS'⟩ := hS.inv p1
    have ha := evF_eq (hv (m + 1) (by omega) p1)
    rw [ha] at ev
    have ev' : evAt l env m = ovr (opV l[m].kind l[m].val env (evF l env (m + 1)) 0) := ev
    have hk := parts_1 ⟨k1, k2⟩ (by rw [← hkm]; exact n1)
    have hty := g.typed m hm (m + 1) (by
      rw [show (partsOf (kindAt l m)).1 = 1 from n1]; simp [starts])
    have hb : bitP (evF l env (m + 1)) := ev_bit p1 (hty.2 (by rw [hkm, hk]; decide)) ha
    generalize evF l env (m + 1) = a at *
    refine ⟨S', 1 - a, .inr (.inr (.inl ⟨hk, a, rfl, hb, rfl⟩)), fin S' _ ?_ (by rw [e1]; exact hS')⟩
    rw [ev', hk]
    rcases hb with rfl | rfl <;> rfl
  · rw [n2] at ev
    obtain ⟨S', rfl, hS'⟩ := hS.inv p1
    rw [p4, Int.toNat_natCast] at hS'
    obtain ⟨S'', rfl, hS''⟩ := hS'.inv p3
    have ha := evF_eq (hv (m + 1) (by omega) p1)
    have hb := evF_eq (hv (second l m) (by omega) p3)
    rw [ha, if_pos (show m < second l m by omega), hb] at ev
    have ev' : evAt l env m = ovr (opV l[m].kind l[m].val env (evF l env (m + 1)) (evF l env (second l m))) := ev
    have hk := parts_2 ⟨k1, k2⟩ (by rw [← hkm]; exact n2)
    have la := ev_lim p1 ha
    have lb := ev_lim p3 hb
    have ty1 := g.typed m hm (m + 1) (by rw [show (partsOf (kindAt l m)).1 = 2 from n2]; simp [starts])
    have ty2 := g.typed m hm (second l m) (by rw [show (partsOf (kindAt l m)).1 = 2 from n2]; simp [starts, second])
    have bt : takesP l[m].kind → bitP (evF l env (m + 1)) ∧ bitP (evF l env (second l m)) := fun ht =>
      ⟨ev_bit p1 (ty1.2 (by rw [hkm]; exact ht)) ha, ev_bit p3 (ty2.2 (by rw [hkm]; exact ht)) hb⟩
    rw [← e2] at hS''
    generalize evF l env (m + 1) = a at *
    generalize evF l env (second l m) = b at *
    have : l[m].kind = 3 ∨ l[m].kind = 4 ∨ l[m].kind = 5 ∨ l[m].kind = 6 ∨ l[m].kind = 7 ∨ l[m].kind = 8 ∨ l[m].kind = 9 := by omega
    rcases this with h | h | h | h | h | h | h
    · exact ⟨S'', a + b, .inr (.inr (.inr ⟨a, b, rfl, la, lb, .inl ⟨h, rfl⟩⟩)), fin S'' _ (by rw [ev', h]; rfl) hS''⟩
    · exact ⟨S'', a - b, .inr (.inr (.inr ⟨a, b, rfl, la, lb, .inr (.inl ⟨h, rfl⟩)⟩)), fin S'' _ (by rw [ev', h]; rfl) hS''⟩
    · exact ⟨S'', a * b, .inr (.inr (.inr ⟨a, b, rfl, la, lb, .inr (.inr (.inl ⟨h, rfl⟩))⟩)), fin S'' _ (by rw [ev', h]; rfl) hS''⟩
    · exact ⟨S'', _, .inr (.inr (.inr ⟨a, b, rfl, la, lb, .inr (.inr (.inr (.inl ⟨h, rfl⟩)))⟩)), fin S'' _ (by rw [ev', h]; simp [opV]) hS''⟩
    · exact ⟨S'', _, .inr (.inr (.inr ⟨a, b, rfl, la, lb, .inr (.inr (.inr (.inr (.inl ⟨h, rfl⟩))))⟩)), fin S'' _ (by rw [ev', h]; simp [opV]) hS''⟩
    · obtain ⟨b1, b2⟩ := bt (by omega)
      refine ⟨S'', bits .and .i64 a b, .inr (.inr (.inr ⟨a, b, rfl, la, lb, .inr (.inr (.inr (.inr (.inr (.inl ⟨h, b1, b2, rfl⟩)))))⟩)), fin S'' _ ?_ hS''⟩
      rw [ev', h]
      rcases b1 with rfl | rfl <;> rcases b2 with rfl | rfl <;> rfl
    · obtain ⟨b1, b2⟩ := bt (by omega)
      refine ⟨S'', bits .or .i64 a b, .inr (.inr (.inr ⟨a, b, rfl, la, lb, .inr (.inr (.inr (.inr (.inr (.inr ⟨h, b1, b2, rfl⟩)))))⟩)), fin S'' _ ?_ hS''⟩
      rw [ev', h]
      rcases b1 with rfl | rfl <;> rcases b2 with rfl | rfl <;> rfl
/-- Where a term is worth something, so are all places in it. -/
theorem ev_all {l : List Fo} {env : List Int} {vars : Int} (g : GoodE l vars) : ∀ (m i : Nat), i < l.length → (endOf l i).1 ≤ ((i + m : Nat) : Int) → (evAt l env i).isSome → ∀ j, i ≤ j → (j : Int) < (endOf l i).1 → (evAt l env j).isSome := by
  intro m
  induction m using Nat.strongRecOn with
  | _ m ih =>
  intro i hi hm hs j h1 h2
  by_cases e : j = i
  · subst e; exact hs
  have ev := evAt_eq l env i hi
  unfold stepE at ev
  have hb := endOf_bound l i (g.well i hi)
  rcases g.parts hi with ⟨n0, e0⟩ | ⟨n1, p1, e1⟩ | ⟨n2, p1, p2, p3, p4, e2⟩
  · omega
  · rw [n1] at ev
    have h3 : (evAt l env (i + 1)).isSome := by
      cases hx : evAt l env (i + 1) with
      | some v => rfl
      | none => rw [hx] at ev; rw [ev] at hs; exact absurd hs (by simp)
    exact ih (m - 1) (by omega) (i + 1) p1 (by omega) h3 j (by omega) (by omega)
  · rw [n2, if_pos (show i < second l i by omega)] at ev
    have hb1 := endOf_bound l (i + 1) (g.well _ p1)
    have hb2 := endOf_bound l (second l i) (g.well _ p3)
    have h3 : (evAt l env (i + 1)).isSome ∧ (evAt l env (second l i)).isSome := by
      cases hx : evAt l env (i + 1) with
      | none => rw [hx] at ev; rw [ev] at hs; exact absurd hs (by simp)
      | some v =>
        cases hy : evAt l env (second l i) with
        | some w => exact ⟨rfl, rfl⟩
        | none => rw [hx, hy] at ev; rw [ev] at hs; exact absurd hs (by simp)
    by_cases c : j < second l i
    · exact ih (m - 1) (by omega) (i + 1) p1 (by omega) h3.1 j (by omega) (by omega)
    · exact ih (m - (second l i - i)) (by omega) (second l i) p3 (by omega) h3.2 j (by omega) (by omega)
end Go.Sp
