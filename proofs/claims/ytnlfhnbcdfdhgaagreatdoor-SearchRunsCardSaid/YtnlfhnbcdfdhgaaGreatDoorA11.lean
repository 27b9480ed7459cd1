/- Own texts. -/
import Derived.Test.YtnlfhnbcdfdhgaaGreatDoorA10
set_option linter.unusedVariables false
set_option linter.unusedSimpArgs false
set_option maxRecDepth 100000
set_option maxHeartbeats 4000000
namespace Go.Proofs.YtnlfhnbcdfdhgaaGreatDoor
open Go Go.Av Go.Sp
theorem dd : Cal Tryz.prog 135 := Cal.of Tryz.func135 (by kernel_rfl) (by kernel_rfl)
def iK : List PanicEntry := [{ v := .iface 34 (.int .i64 8), recovered := false }]
def DoQ (bm : Nat) (env base : List Int) (n : Int) (r : AE) (h : H) : Prop :=
 ∃ v : Sl, (AU n ∧ r = .ret (.tup []) ∧ h = [.cells bm 193 [.val v.v, .d (AJ env)], AL v.v 3 1 AS (base ++ [n])]) ∨ (¬ AU n ∧ r = .pan iK ∧ h = [.cells bm 193 [.val v.v, .d (AJ env)], AL v.v 3 1 AS base])
theorem do0 (G : List (Nat × List D)) (bm : Nat) (env base : List Int) (k v n : Int) (q : Sl) (hb : base.length ≤ 1000) (h : (k = 1 ∧ n = v ∧ AU v) ∨ (k = 11 ∧ n = 1) ∨ (k = 12 ∧ n = 0)) : AC Tryz.prog G 135 [.val (.pointer (some ⟨bm, 0, none⟩)), .agg [.int k, .int v]] [.cells bm 193 [.val q.v, .d (AJ env)], AL q.v 3 1 AS base] (DoQ bm env base n) := by
 unfold AU at h
 refine AK (ts := []) Tryz.f135.ntmps Tryz.func135 rfl rfl rfl (by simp [Tryz.ntmps135]) fun W I => ?_
 rcases h with ⟨rfl, rfl, h⟩ | ⟨rfl, rfl⟩ | ⟨rfl, rfl⟩
 all_goals
  repeat' (first | exact jA | refine AF ?_ | refine two ?_ ?_ | refine AB fun c_ => ?_ | refine imp fun hc => ?_; try exact cx1 hc | refine all fun v_ => ?_)
  all_goals first
   | (exfalso; unfold AU at *; omega)
   | (refine AI (VS.take (hc := [.cells bm 193 [.val v_.v, .d (AJ env)], AL v_.v 3 1 AS (base ++ [_])]) AH (Env.le_refl _)) ?_
      exact ⟨v_, .inl ⟨by unfold AU; omega, rfl, rfl⟩⟩)
   | (refine AI (VS.take (hc := [.cells bm 193 [.val q.v, .d (AJ env)], AL q.v 3 1 AS base]) AH (Env.le_refl _)) ?_
      exact ⟨_, .inr ⟨by unfold AU; omega, rfl, rfl⟩⟩)
theorem dov (G : List (Nat × List D)) (bm : Nat) (env base : List Int) (v : Int) (q : Sl) (hb : base.length ≤ 1000) (h0 : 0 ≤ v) (h1 : v.toNat < env.length) : AC Tryz.prog G 135 [.val (.pointer (some ⟨bm, 0, none⟩)), .agg [.int 2, .int v]] [.cells bm 193 [.val q.v, .d (AJ env)], AL q.v 3 1 AS base] (DoQ bm env base env[v.toNat]) := by
 refine AK (ts := []) Tryz.f135.ntmps Tryz.func135 rfl rfl rfl (by simp [Tryz.ntmps135]) fun W I => ?_
 repeat' (first | exact jA | refine AF ?_ | refine two ?_ ?_ | refine AB fun c_ => ?_ | refine imp fun hc => ?_; try exact cx1 hc | refine all fun v_ => ?_)
 all_goals first
  | (exfalso; unfold AU at *; omega)
  | (refine AI (VS.take (hc := [.cells bm 193 [.val v_.v, .d (AJ env)], AL v_.v 3 1 AS (base ++ [_])]) AH (Env.le_refl _)) ?_
     exact ⟨v_, .inl ⟨by unfold AU; omega, rfl, rfl⟩⟩)
  | (refine AI (VS.take (hc := [.cells bm 193 [.val q.v, .d (AJ env)], AL q.v 3 1 AS base]) AH (Env.le_refl _)) ?_
     exact ⟨_, .inr ⟨by unfold AU; omega, rfl, rfl⟩⟩)
theorem don (G : List (Nat × List D)) (bm : Nat) (env base : List Int) (v a : Int) (q : Sl) (hb : base.length ≤ 1000) (ha : a = 0 ∨ a = 1) : AC Tryz.prog G 135 [.val (.pointer (some ⟨bm, 0, none⟩)), .agg [.int 10, .int v]] [.cells bm 193 [.val q.v, .d (AJ env)], AL q.v 3 1 AS (base ++ [a])] (DoQ bm env base (1 - a)) := by
 refine AK (ts := []) Tryz.f135.ntmps Tryz.func135 rfl rfl rfl (by simp [Tryz.ntmps135]) fun W I => ?_
 repeat' (first | refine cag CX (pop G bm env base a q hb) ?_ | exact jA | refine AF ?_ | refine two ?_ ?_ | refine AB fun c_ => ?_ | refine imp fun hc => ?_; try exact cx1 hc | refine all fun v_ => ?_)
 refine AI (VS.take (hc := [.cells bm 193 [.val v_.v, .d (AJ env)], AL v_.v 3 1 AS (base ++ [1 - a])]) AH (Env.le_refl _)) ?_
 exact ⟨v_, .inl ⟨by unfold AU; omega, rfl, rfl⟩⟩
theorem iV {p q : Prop} (hp : p) (h : p → q := by
 apply cmp; (focus ((with_reducible apply (Fx (AY .i64) (vv := fun v : Value => v))); (iterate 3 rfl); exact fun _ _ _ h => h; rfl; rfl; exact Cm; rfl))
 exact fun h => h) : q := h hp
theorem iW {p q : Prop} (hp : p) (h : p → q := by
 apply cmp; (focus ((with_reducible apply jp); (focus ((with_reducible apply (Ej (AY .i64) (vv := fun v : Value => v))); (iterate 4 rfl); exact AW; rfl)); rfl))
 exact fun h => h) : q := h hp
theorem ij {p q : Prop} (hp : p) (h : p → q := by
 apply cmp; (focus ((with_reducible apply (Ga (Value.int .i64) (fun v : Value => v))); rfl))
 exact fun h => h) : q := h hp
theorem gE (G : List (Nat × List D)) (bm : Nat) (env base : List Int) (v a b : Int) (q : Sl) (hb : base.length ≤ 900) (ha : AU a) (hb' : AU b) (hn : -2000000000000 ≤ a + b ∧ a + b ≤ 2000000000000) : AC Tryz.prog G 135 [.val (.pointer (some ⟨bm, 0, none⟩)), .agg [.int 3, .int v]] [.cells bm 193 [.val q.v, .d (AJ env)], AL q.v 3 1 AS (base ++ [b] ++ [a])] (DoQ bm env base (a + b)) := by
 refine AK (ts := []) Tryz.f135.ntmps Tryz.func135 rfl rfl rfl (by simp [Tryz.ntmps135]) fun W I => ?_
 repeat' (first | ((with_reducible apply D8); rfl; exact CX; (focus exact pop G bm env (base ++ [b]) a q (by simp; omega)); exact BF; rfl; exact EI) | exact jA | refine AF ?_ | refine two ?_ ?_ | refine AB fun c_ => ?_ | refine imp fun hc => ?_; try exact cx1 hc | refine all fun v_ => ?_)
 obtain ⟨w1, rfl⟩ : ∃ x, x = v_ := ⟨_, rfl⟩
 repeat' (first | ((with_reducible apply D8); rfl; exact CX; (focus exact pop G bm env base b w1 jB); exact BF; rfl; exact EI) | exact jA | refine AF ?_ | refine two ?_ ?_ | refine AB fun c_ => ?_ | refine imp fun hc => ?_; try exact cx1 hc | refine all fun v_ => ?_)
 rename Sl => w2
 repeat' (first | refine ij ?_ | refine iV ?_ | refine iW ?_ | ((with_reducible apply Fy); rfl; rfl; exact bd; (focus exact clo1 G _ _ a b ha hb'); exact BF; rfl; exact EI) | exact jA | refine AF ?_ | refine two ?_ ?_ | refine AB fun c_ => ?_ | refine imp fun hc => ?_; try exact cx1 hc | refine all fun v_ => ?_)
 all_goals first
 | (refine AI (VS.take (hc := [.cells bm 193 [.val w2.v, .d (AJ env)], AL w2.v 3 1 AS base]) AH (Env.le_refl _)) ?_
    exact ⟨w2, .inr ⟨(by unfold AU; omega), rfl, rfl⟩⟩)
 | (refine AI (VS.take (hc := [.cells bm 193 [.val v_.v, .d (AJ env)], AL v_.v 3 1 AS (base ++ [a + b])]) AH (Env.le_refl _)) ?_
    exact ⟨v_, .inl ⟨(by unfold AU; omega), rfl, rfl⟩⟩)
theorem gD (G : List (Nat × List D)) (bm : Nat) (env base : List Int) (v a b : Int) (q : Sl) (hb : base.length ≤ 900) (ha : AU a) (hb' : AU b) (hn : -2000000000000 ≤ a - b ∧ a - b ≤ 2000000000000) : AC Tryz.prog G 135 [.val (.pointer (some ⟨bm, 0, none⟩)), .agg [.int 4, .int v]] [.cells bm 193 [.val q.v, .d (AJ env)], AL q.v 3 1 AS (base ++ [b] ++ [a])] (DoQ bm env base (a - b)) := by
 refine AK (ts := []) Tryz.f135.ntmps Tryz.func135 rfl rfl rfl (by simp [Tryz.ntmps135]) fun W I => ?_
 repeat' (first | ((with_reducible apply D8); rfl; exact CX; (focus exact pop G bm env (base ++ [b]) a q (by simp; omega)); exact BF; rfl; exact EI) | exact jA | refine AF ?_ | refine two ?_ ?_ | refine AB fun c_ => ?_ | refine imp fun hc => ?_; try exact cx1 hc | refine all fun v_ => ?_)
 obtain ⟨w1, rfl⟩ : ∃ x, x = v_ := ⟨_, rfl⟩
 repeat' (first | ((with_reducible apply D8); rfl; exact CX; (focus exact pop G bm env base b w1 jB); exact BF; rfl; exact EI) | exact jA | refine AF ?_ | refine two ?_ ?_ | refine AB fun c_ => ?_ | refine imp fun hc => ?_; try exact cx1 hc | refine all fun v_ => ?_)
 rename Sl => w2
 repeat' (first | refine ij ?_ | refine iV ?_ | refine iW ?_ | ((with_reducible apply Fy); rfl; rfl; exact cu; (focus exact clo2 G _ _ a b ha hb'); exact BF; rfl; exact EI) | exact jA | refine AF ?_ | refine two ?_ ?_ | refine AB fun c_ => ?_ | refine imp fun hc => ?_; try exact cx1 hc | refine all fun v_ => ?_)
 all_goals first
 | (refine AI (VS.take (hc := [.cells bm 193 [.val w2.v, .d (AJ env)], AL w2.v 3 1 AS base]) AH (Env.le_refl _)) ?_
    exact ⟨w2, .inr ⟨(by unfold AU; omega), rfl, rfl⟩⟩)
 | (refine AI (VS.take (hc := [.cells bm 193 [.val v_.v, .d (AJ env)], AL v_.v 3 1 AS (base ++ [a - b])]) AH (Env.le_refl _)) ?_
    exact ⟨v_, .inl ⟨(by unfold AU; omega), rfl, rfl⟩⟩)
theorem ee (G : List (Nat × List D)) (bm : Nat) (env base : List Int) (v a b : Int) (q : Sl) (hb : base.length ≤ 900) (ha : AU a) (hb' : AU b) (hn : -2000000000000 ≤ a * b ∧ a * b ≤ 2000000000000) : AC Tryz.prog G 135 [.val (.pointer (some ⟨bm, 0, none⟩)), .agg [.int 5, .int v]] [.cells bm 193 [.val q.v, .d (AJ env)], AL q.v 3 1 AS (base ++ [b] ++ [a])] (DoQ bm env base (a * b)) := by
 refine AK (ts := []) Tryz.f135.ntmps Tryz.func135 rfl rfl rfl (by simp [Tryz.ntmps135]) fun W I => ?_
 repeat' (first | ((with_reducible apply D8); rfl; exact CX; (focus exact pop G bm env (base ++ [b]) a q (by simp; omega)); exact BF; rfl; exact EI) | exact jA | refine AF ?_ | refine two ?_ ?_ | refine AB fun c_ => ?_ | refine imp fun hc => ?_; try exact cx1 hc | refine all fun v_ => ?_)
 obtain ⟨w1, rfl⟩ : ∃ x, x = v_ := ⟨_, rfl⟩
 repeat' (first | ((with_reducible apply D8); rfl; exact CX; (focus exact pop G bm env base b w1 jB); exact BF; rfl; exact EI) | exact jA | refine AF ?_ | refine two ?_ ?_ | refine AB fun c_ => ?_ | refine imp fun hc => ?_; try exact cx1 hc | refine all fun v_ => ?_)
 rename Sl => w2
 repeat' (first | refine ij ?_ | refine iV ?_ | refine iW ?_ | ((with_reducible apply Fy); rfl; rfl; exact dD; (focus exact clo3 G _ _ a b ha hb'); exact BF; rfl; exact EI) | exact jA | refine AF ?_ | refine two ?_ ?_ | refine AB fun c_ => ?_ | refine imp fun hc => ?_; try exact cx1 hc | refine all fun v_ => ?_)
 all_goals first
 | (refine AI (VS.take (hc := [.cells bm 193 [.val w2.v, .d (AJ env)], AL w2.v 3 1 AS base]) AH (Env.le_refl _)) ?_
    exact ⟨w2, .inr ⟨(by unfold AU; omega), rfl, rfl⟩⟩)
 | (refine AI (VS.take (hc := [.cells bm 193 [.val v_.v, .d (AJ env)], AL v_.v 3 1 AS (base ++ [a * b])]) AH (Env.le_refl _)) ?_
    exact ⟨v_, .inl ⟨(by unfold AU; omega), rfl, rfl⟩⟩)
theorem iF (G : List (Nat × List D)) (bm : Nat) (env base : List Int) (v a b : Int) (q : Sl) (hb : base.length ≤ 900) (ha : AU a) (hb' : AU b) (hn : -2000000000000 ≤ (if decide (a = b) = true then 1 else 0) ∧ (if decide (a = b) = true then 1 else 0) ≤ 2000000000000) : AC Tryz.prog G 135 [.val (.pointer (some ⟨bm, 0, none⟩)), .agg [.int 6, .int v]] [.cells bm 193 [.val q.v, .d (AJ env)], AL q.v 3 1 AS (base ++ [b] ++ [a])] (DoQ bm env base ((if decide (a = b) = true then 1 else 0))) := by
 refine AK (ts := []) Tryz.f135.ntmps Tryz.func135 rfl rfl rfl (by simp [Tryz.ntmps135]) fun W I => ?_
 repeat' (first | ((with_reducible apply D8); rfl; exact CX; (focus exact pop G bm env (base ++ [b]) a q (by simp; omega)); exact BF; rfl; exact EI) | exact jA | refine AF ?_ | refine two ?_ ?_ | refine AB fun c_ => ?_ | refine imp fun hc => ?_; try exact cx1 hc | refine all fun v_ => ?_)
 obtain ⟨w1, rfl⟩ : ∃ x, x = v_ := ⟨_, rfl⟩
 repeat' (first | ((with_reducible apply D8); rfl; exact CX; (focus exact pop G bm env base b w1 jB); exact BF; rfl; exact EI) | exact jA | refine AF ?_ | refine two ?_ ?_ | refine AB fun c_ => ?_ | refine imp fun hc => ?_; try exact cx1 hc | refine all fun v_ => ?_)
 rename Sl => w2
 repeat' (first | refine ij ?_ | refine iV ?_ | refine iW ?_ | ((with_reducible apply Fy); rfl; rfl; exact de; (focus exact clo4 G _ _ a b ha hb'); exact BF; rfl; exact EI) | exact jA | refine AF ?_ | refine two ?_ ?_ | refine AB fun c_ => ?_ | refine imp fun hc => ?_; try exact cx1 hc | refine all fun v_ => ?_)
 all_goals first
 | (refine AI (VS.take (hc := [.cells bm 193 [.val w2.v, .d (AJ env)], AL w2.v 3 1 AS base]) AH (Env.le_refl _)) ?_
    exact ⟨w2, .inr ⟨(by unfold AU; omega), rfl, rfl⟩⟩)
 | (refine AI (VS.take (hc := [.cells bm 193 [.val v_.v, .d (AJ env)], AL v_.v 3 1 AS (base ++ [(if decide (a = b) = true then 1 else 0)])]) AH (Env.le_refl _)) ?_
    exact ⟨v_, .inl ⟨(by unfold AU; omega), rfl, rfl⟩⟩)
theorem ga (G : List (Nat × List D)) (bm : Nat) (env base : List Int) (v a b : Int) (q : Sl) (hb : base.length ≤ 900) (ha : AU a) (hb' : AU b) (hn : -2000000000000 ≤ (if decide (a < b) = true then 1 else 0) ∧ (if decide (a < b) = true then 1 else 0) ≤ 2000000000000) : AC Tryz.prog G 135 [.val (.pointer (some ⟨bm, 0, none⟩)), .agg [.int 7, .int v]] [.cells bm 193 [.val q.v, .d (AJ env)], AL q.v 3 1 AS (base ++ [b] ++ [a])] (DoQ bm env base ((if decide (a < b) = true then 1 else 0))) := by
 refine AK (ts := []) Tryz.f135.ntmps Tryz.func135 rfl rfl rfl (by simp [Tryz.ntmps135]) fun W I => ?_
 repeat' (first | ((with_reducible apply D8); rfl; exact CX; (focus exact pop G bm env (base ++ [b]) a q (by simp; omega)); exact BF; rfl; exact EI) | exact jA | refine AF ?_ | refine two ?_ ?_ | refine AB fun c_ => ?_ | refine imp fun hc => ?_; try exact cx1 hc | refine all fun v_ => ?_)
 obtain ⟨w1, rfl⟩ : ∃ x, x = v_ := ⟨_, rfl⟩
 repeat' (first | ((with_reducible apply D8); rfl; exact CX; (focus exact pop G bm env base b w1 jB); exact BF; rfl; exact EI) | exact jA | refine AF ?_ | refine two ?_ ?_ | refine AB fun c_ => ?_ | refine imp fun hc => ?_; try exact cx1 hc | refine all fun v_ => ?_)
 rename Sl => w2
 repeat' (first | refine ij ?_ | refine iV ?_ | refine iW ?_ | ((with_reducible apply Fy); rfl; rfl; exact cR; (focus exact clo5 G _ _ a b ha hb'); exact BF; rfl; exact EI) | exact jA | refine AF ?_ | refine two ?_ ?_ | refine AB fun c_ => ?_ | refine imp fun hc => ?_; try exact cx1 hc | refine all fun v_ => ?_)
 all_goals first
 | (refine AI (VS.take (hc := [.cells bm 193 [.val w2.v, .d (AJ env)], AL w2.v 3 1 AS base]) AH (Env.le_refl _)) ?_
    exact ⟨w2, .inr ⟨(by unfold AU; omega), rfl, rfl⟩⟩)
 | (refine AI (VS.take (hc := [.cells bm 193 [.val v_.v, .d (AJ env)], AL v_.v 3 1 AS (base ++ [(if decide (a < b) = true then 1 else 0)])]) AH (Env.le_refl _)) ?_
    exact ⟨v_, .inl ⟨(by unfold AU; omega), rfl, rfl⟩⟩)
theorem fU (G : List (Nat × List D)) (bm : Nat) (env base : List Int) (v a b : Int) (q : Sl) (hb : base.length ≤ 900) (ha : AU a) (hb' : AU b) (hn : -2000000000000 ≤ bits .and .i64 a b ∧ bits .and .i64 a b ≤ 2000000000000) : AC Tryz.prog G 135 [.val (.pointer (some ⟨bm, 0, none⟩)), .agg [.int 8, .int v]] [.cells bm 193 [.val q.v, .d (AJ env)], AL q.v 3 1 AS (base ++ [b] ++ [a])] (DoQ bm env base (bits .and .i64 a b)) := by
 refine AK (ts := []) Tryz.f135.ntmps Tryz.func135 rfl rfl rfl (by simp [Tryz.ntmps135]) fun W I => ?_
 repeat' (first | ((with_reducible apply D8); rfl; exact CX; (focus exact pop G bm env (base ++ [b]) a q (by simp; omega)); exact BF; rfl; exact EI) | exact jA | refine AF ?_ | refine two ?_ ?_ | refine AB fun c_ => ?_ | refine imp fun hc => ?_; try exact cx1 hc | refine all fun v_ => ?_)
 obtain ⟨w1, rfl⟩ : ∃ x, x = v_ := ⟨_, rfl⟩
 repeat' (first | ((with_reducible apply D8); rfl; exact CX; (focus exact pop G bm env base b w1 jB); exact BF; rfl; exact EI) | exact jA | refine AF ?_ | refine two ?_ ?_ | refine AB fun c_ => ?_ | refine imp fun hc => ?_; try exact cx1 hc | refine all fun v_ => ?_)
 rename Sl => w2
 repeat' (first | refine ij ?_ | refine iV ?_ | refine iW ?_ | ((with_reducible apply Fy); rfl; rfl; exact cq; (focus exact clo6 G _ _ a b ha hb'); exact BF; rfl; exact EI) | exact jA | refine AF ?_ | refine two ?_ ?_ | refine AB fun c_ => ?_ | refine imp fun hc => ?_; try exact cx1 hc | refine all fun v_ => ?_)
 all_goals first
 | (refine AI (VS.take (hc := [.cells bm 193 [.val w2.v, .d (AJ env)], AL w2.v 3 1 AS base]) AH (Env.le_refl _)) ?_
    exact ⟨w2, .inr ⟨(by unfold AU; omega), rfl, rfl⟩⟩)
 | (refine AI (VS.take (hc := [.cells bm 193 [.val v_.v, .d (AJ env)], AL v_.v 3 1 AS (base ++ [bits .and .i64 a b])]) AH (Env.le_refl _)) ?_
    exact ⟨v_, .inl ⟨(by unfold AU; omega), rfl, rfl⟩⟩)
theorem gV (G : List (Nat × List D)) (bm : Nat) (env base : List Int) (v a b : Int) (q : Sl) (hb : base.length ≤ 900) (ha : AU a) (hb' : AU b) (hn : -2000000000000 ≤ bits .or .i64 a b ∧ bits .or .i64 a b ≤ 2000000000000) : AC Tryz.prog G 135 [.val (.pointer (some ⟨bm, 0, none⟩)), .agg [.int 9, .int v]] [.cells bm 193 [.val q.v, .d (AJ env)], AL q.v 3 1 AS (base ++ [b] ++ [a])] (DoQ bm env base (bits .or .i64 a b)) := by
 refine AK (ts := []) Tryz.f135.ntmps Tryz.func135 rfl rfl rfl (by simp [Tryz.ntmps135]) fun W I => ?_
 repeat' (first | ((with_reducible apply D8); rfl; exact CX; (focus exact pop G bm env (base ++ [b]) a q (by simp; omega)); exact BF; rfl; exact EI) | exact jA | refine AF ?_ | refine two ?_ ?_ | refine AB fun c_ => ?_ | refine imp fun hc => ?_; try exact cx1 hc | refine all fun v_ => ?_)
 obtain ⟨w1, rfl⟩ : ∃ x, x = v_ := ⟨_, rfl⟩
 repeat' (first | ((with_reducible apply D8); rfl; exact CX; (focus exact pop G bm env base b w1 jB); exact BF; rfl; exact EI) | exact jA | refine AF ?_ | refine two ?_ ?_ | refine AB fun c_ => ?_ | refine imp fun hc => ?_; try exact cx1 hc | refine all fun v_ => ?_)
 rename Sl => w2
 repeat' (first | refine ij ?_ | refine iV ?_ | refine iW ?_ | ((with_reducible apply Fy); rfl; rfl; exact dP; (focus exact clo7 G _ _ a b ha hb'); exact BF; rfl; exact EI) | exact jA | refine AF ?_ | refine two ?_ ?_ | refine AB fun c_ => ?_ | refine imp fun hc => ?_; try exact cx1 hc | refine all fun v_ => ?_)
 all_goals first
 | (refine AI (VS.take (hc := [.cells bm 193 [.val w2.v, .d (AJ env)], AL w2.v 3 1 AS base]) AH (Env.le_refl _)) ?_
    exact ⟨w2, .inr ⟨(by unfold AU; omega), rfl, rfl⟩⟩)
 | (refine AI (VS.take (hc := [.cells bm 193 [.val v_.v, .d (AJ env)], AL v_.v 3 1 AS (base ++ [bits .or .i64 a b])]) AH (Env.le_refl _)) ?_
    exact ⟨v_, .inl ⟨(by unfold AU; omega), rfl, rfl⟩⟩)
end Go.Proofs.YtnlfhnbcdfdhgaaGreatDoor
