/- A bundle of this claim's own texts: Y2. -/
import Derived.Test.YtniklgkoiaeipaaGreatDoorD15
set_option linter.unusedVariables false
set_option linter.unusedSimpArgs false
set_option maxRecDepth 100000
set_option maxHeartbeats 4000000
namespace Go.Proofs.YtniklgkoiaeipaaGreatDoor
open Go Go.Av Go.Sp
theorem cal_mdo : Cal Tryz.prog 138 := Cal.of Tryz.func138 (by kernel_rfl) (by kernel_rfl)
def overP : List PanicEntry := [{ v := .iface 36 (.int .i64 8), recovered := false }]
def DoQ (bm : Nat) (env base : List Int) (n : Int) (r : AE) (h : H) : Prop :=
 ∃ v : Sl, (limP n ∧ r = .ret (.tup []) ∧ h = [.cells bm 189 [.val v.v, .d (intsD env)], rowE v.v 3 1 intC (base ++ [n])]) ∨ (¬ limP n ∧ r = .pan overP ∧ h = [.cells bm 189 [.val v.v, .d (intsD env)], rowE v.v 3 1 intC base])
theorem do0 (G : List (Nat × List D)) (bm : Nat) (env base : List Int) (k v n : Int) (q : Sl) (hb : base.length ≤ 1000) (h : (k = 1 ∧ n = v ∧ limP v) ∨ (k = 11 ∧ n = 1) ∨ (k = 12 ∧ n = 0)) : AC Tryz.prog G 138 [.val (.pointer (some ⟨bm, 0, none⟩)), .agg [.int k, .int v]] [.cells bm 189 [.val q.v, .d (intsD env)], rowE q.v 3 1 intC base] (DoQ bm env base n) := by
 unfold limP at h
 refine AC_ofV (ts := []) Tryz.f138.ntmps Tryz.func138 rfl rfl rfl (by simp [Tryz.ntmps138]) fun W I => ?_
 rcases h with ⟨rfl, rfl, h⟩ | ⟨rfl, rfl⟩ | ⟨rfl, rfl⟩
 all_goals
  repeat' (first
   | exact True.intro | refine stpH ?_ | refine two ?_ ?_ | refine allc fun c_ => ?_
   | (refine imp fun hc => ?_) <;> try exact cx1 hc
   | refine all fun v_ => ?_)
  all_goals first
   | (exfalso; unfold limP at *; omega)
   | (refine retv (VS.take (hc := [.cells bm 189 [.val v_.v, .d (intsD env)], rowE v_.v 3 1 intC (base ++ [_])]) (by exact takedD) (Env.le_refl _)) ?_
      exact ⟨v_, .inl ⟨by unfold limP; omega, rfl, rfl⟩⟩)
   | (refine retv (VS.take (hc := [.cells bm 189 [.val q.v, .d (intsD env)], rowE q.v 3 1 intC base]) (by exact takedD) (Env.le_refl _)) ?_
      exact ⟨_, .inr ⟨by unfold limP; omega, rfl, rfl⟩⟩)
theorem dov (G : List (Nat × List D)) (bm : Nat) (env base : List Int) (v : Int) (q : Sl) (hb : base.length ≤ 1000) (h0 : 0 ≤ v) (h1 : v.toNat < env.length) : AC Tryz.prog G 138 [.val (.pointer (some ⟨bm, 0, none⟩)), .agg [.int 2, .int v]] [.cells bm 189 [.val q.v, .d (intsD env)], rowE q.v 3 1 intC base] (DoQ bm env base env[v.toNat]) := by
 refine AC_ofV (ts := []) Tryz.f138.ntmps Tryz.func138 rfl rfl rfl (by simp [Tryz.ntmps138]) fun W I => ?_
 repeat' (first
  | exact True.intro | refine stpH ?_ | refine two ?_ ?_ | refine allc fun c_ => ?_
  | (refine imp fun hc => ?_) <;> try exact cx1 hc
  | refine all fun v_ => ?_)
 all_goals first
  | (exfalso; unfold limP at *; omega)
  | (refine retv (VS.take (hc := [.cells bm 189 [.val v_.v, .d (intsD env)], rowE v_.v 3 1 intC (base ++ [_])]) (by exact takedD) (Env.le_refl _)) ?_
     exact ⟨v_, .inl ⟨by unfold limP; omega, rfl, rfl⟩⟩)
  | (refine retv (VS.take (hc := [.cells bm 189 [.val q.v, .d (intsD env)], rowE q.v 3 1 intC base]) (by exact takedD) (Env.le_refl _)) ?_
     exact ⟨_, .inr ⟨by unfold limP; omega, rfl, rfl⟩⟩)
theorem don (G : List (Nat × List D)) (bm : Nat) (env base : List Int) (v a : Int) (q : Sl) (hb : base.length ≤ 1000) (ha : a = 0 ∨ a = 1) : AC Tryz.prog G 138 [.val (.pointer (some ⟨bm, 0, none⟩)), .agg [.int 10, .int v]] [.cells bm 189 [.val q.v, .d (intsD env)], rowE q.v 3 1 intC (base ++ [a])] (DoQ bm env base (1 - a)) := by
 refine AC_ofV (ts := []) Tryz.f138.ntmps Tryz.func138 rfl rfl rfl (by simp [Tryz.ntmps138]) fun W I => ?_
 repeat' (first
  | ((with_reducible apply callG); (focus rfl); (focus exact cal_pop); (focus exact pop G bm env base a q hb); (focus exact takeD); (focus rfl); (focus exact appD))
  | exact True.intro | refine stpH ?_ | refine two ?_ ?_ | refine allc fun c_ => ?_
  | (refine imp fun hc => ?_) <;> try exact cx1 hc
  | refine all fun v_ => ?_)
 refine retv (VS.take (hc := [.cells bm 189 [.val v_.v, .d (intsD env)], rowE v_.v 3 1 intC (base ++ [1 - a])]) (by exact takedD) (Env.le_refl _)) ?_
 exact ⟨v_, .inl ⟨by unfold limP; omega, rfl, rfl⟩⟩
theorem do_add (G : List (Nat × List D)) (bm : Nat) (env base : List Int) (v a b : Int) (q : Sl) (hb : base.length ≤ 900) (ha : limP a) (hb' : limP b) (hn : -2000000000000 ≤ a + b ∧ a + b ≤ 2000000000000) : AC Tryz.prog G 138 [.val (.pointer (some ⟨bm, 0, none⟩)), .agg [.int 3, .int v]] [.cells bm 189 [.val q.v, .d (intsD env)], rowE q.v 3 1 intC (base ++ [b] ++ [a])] (DoQ bm env base (a + b)) := by
 refine AC_ofV (ts := []) Tryz.f138.ntmps Tryz.func138 rfl rfl rfl (by simp [Tryz.ntmps138]) fun W I => ?_
 repeat' (first
  | ((with_reducible apply callG); (focus rfl); (focus exact cal_pop); (focus exact pop G bm env (base ++ [b]) a q (by simp; omega)); (focus exact takeD); (focus rfl); (focus exact appD))
  | exact True.intro | refine stpH ?_ | refine two ?_ ?_ | refine allc fun c_ => ?_
  | (refine imp fun hc => ?_) <;> try exact cx1 hc
  | refine all fun v_ => ?_)
 obtain ⟨w1, rfl⟩ : ∃ x, x = v_ := ⟨_, rfl⟩
 repeat' (first
  | ((with_reducible apply callG); (focus rfl); (focus exact cal_pop); (focus exact pop G bm env base b w1 (by omega)); (focus exact takeD); (focus rfl); (focus exact appD))
  | exact True.intro | refine stpH ?_ | refine two ?_ ?_ | refine allc fun c_ => ?_
  | (refine imp fun hc => ?_) <;> try exact cx1 hc
  | refine all fun v_ => ?_)
 rename Sl => w2
 repeat' (first
  | ((with_reducible apply (jmkmapE (Value.int .i64) (fun v : Value => v))); (focus rfl))
  | ((with_reducible apply (js_insMr (keyK_int .i64) (vv := fun v : Value => v))); (focus rfl); (focus rfl); (focus rfl); (focus exact fun _ _ _ h => h); (focus rfl); (focus rfl); (focus exact updD); (focus rfl))
  | ((with_reducible apply jp); (focus ((with_reducible apply (pu_lookM1 (keyK_int .i64) (vv := fun v : Value => v))); (focus rfl); (focus rfl); (focus rfl); (focus rfl); (focus exact memD); (focus rfl))); (focus rfl))
  | ((with_reducible apply callGV); (focus rfl); (focus rfl); (focus exact cal_do1); (focus exact clo1 G _ _ a b ha hb'); (focus exact takeD); (focus rfl); (focus exact appD))
  | exact True.intro | refine stpH ?_ | refine two ?_ ?_ | refine allc fun c_ => ?_
  | (refine imp fun hc => ?_) <;> try exact cx1 hc
  | refine all fun v_ => ?_)
 all_goals first
 | (refine retv (VS.take (hc := [.cells bm 189 [.val w2.v, .d (intsD env)], rowE w2.v 3 1 intC base]) (by exact takedD) (Env.le_refl _)) ?_
    exact ⟨w2, .inr ⟨(by unfold limP; omega), rfl, rfl⟩⟩)
 | (refine retv (VS.take (hc := [.cells bm 189 [.val v_.v, .d (intsD env)], rowE v_.v 3 1 intC (base ++ [a + b])]) (by exact takedD) (Env.le_refl _)) ?_
    exact ⟨v_, .inl ⟨(by unfold limP; omega), rfl, rfl⟩⟩)
theorem do_sub (G : List (Nat × List D)) (bm : Nat) (env base : List Int) (v a b : Int) (q : Sl) (hb : base.length ≤ 900) (ha : limP a) (hb' : limP b) (hn : -2000000000000 ≤ a - b ∧ a - b ≤ 2000000000000) : AC Tryz.prog G 138 [.val (.pointer (some ⟨bm, 0, none⟩)), .agg [.int 4, .int v]] [.cells bm 189 [.val q.v, .d (intsD env)], rowE q.v 3 1 intC (base ++ [b] ++ [a])] (DoQ bm env base (a - b)) := by
 refine AC_ofV (ts := []) Tryz.f138.ntmps Tryz.func138 rfl rfl rfl (by simp [Tryz.ntmps138]) fun W I => ?_
 repeat' (first
  | ((with_reducible apply callG); (focus rfl); (focus exact cal_pop); (focus exact pop G bm env (base ++ [b]) a q (by simp; omega)); (focus exact takeD); (focus rfl); (focus exact appD))
  | exact True.intro | refine stpH ?_ | refine two ?_ ?_ | refine allc fun c_ => ?_
  | (refine imp fun hc => ?_) <;> try exact cx1 hc
  | refine all fun v_ => ?_)
 obtain ⟨w1, rfl⟩ : ∃ x, x = v_ := ⟨_, rfl⟩
 repeat' (first
  | ((with_reducible apply callG); (focus rfl); (focus exact cal_pop); (focus exact pop G bm env base b w1 (by omega)); (focus exact takeD); (focus rfl); (focus exact appD))
  | exact True.intro | refine stpH ?_ | refine two ?_ ?_ | refine allc fun c_ => ?_
  | (refine imp fun hc => ?_) <;> try exact cx1 hc
  | refine all fun v_ => ?_)
 rename Sl => w2
 repeat' (first
  | ((with_reducible apply (jmkmapE (Value.int .i64) (fun v : Value => v))); (focus rfl))
  | ((with_reducible apply (js_insMr (keyK_int .i64) (vv := fun v : Value => v))); (focus rfl); (focus rfl); (focus rfl); (focus exact fun _ _ _ h => h); (focus rfl); (focus rfl); (focus exact updD); (focus rfl))
  | ((with_reducible apply jp); (focus ((with_reducible apply (pu_lookM1 (keyK_int .i64) (vv := fun v : Value => v))); (focus rfl); (focus rfl); (focus rfl); (focus rfl); (focus exact memD); (focus rfl))); (focus rfl))
  | ((with_reducible apply callGV); (focus rfl); (focus rfl); (focus exact cal_do2); (focus exact clo2 G _ _ a b ha hb'); (focus exact takeD); (focus rfl); (focus exact appD))
  | exact True.intro | refine stpH ?_ | refine two ?_ ?_ | refine allc fun c_ => ?_
  | (refine imp fun hc => ?_) <;> try exact cx1 hc
  | refine all fun v_ => ?_)
 all_goals first
 | (refine retv (VS.take (hc := [.cells bm 189 [.val w2.v, .d (intsD env)], rowE w2.v 3 1 intC base]) (by exact takedD) (Env.le_refl _)) ?_
    exact ⟨w2, .inr ⟨(by unfold limP; omega), rfl, rfl⟩⟩)
 | (refine retv (VS.take (hc := [.cells bm 189 [.val v_.v, .d (intsD env)], rowE v_.v 3 1 intC (base ++ [a - b])]) (by exact takedD) (Env.le_refl _)) ?_
    exact ⟨v_, .inl ⟨(by unfold limP; omega), rfl, rfl⟩⟩)
theorem do_mul (G : List (Nat × List D)) (bm : Nat) (env base : List Int) (v a b : Int) (q : Sl) (hb : base.length ≤ 900) (ha : limP a) (hb' : limP b) (hn : -2000000000000 ≤ a * b ∧ a * b ≤ 2000000000000) : AC Tryz.prog G 138 [.val (.pointer (some ⟨bm, 0, none⟩)), .agg [.int 5, .int v]] [.cells bm 189 [.val q.v, .d (intsD env)], rowE q.v 3 1 intC (base ++ [b] ++ [a])] (DoQ bm env base (a * b)) := by
 refine AC_ofV (ts := []) Tryz.f138.ntmps Tryz.func138 rfl rfl rfl (by simp [Tryz.ntmps138]) fun W I => ?_
 repeat' (first
  | ((with_reducible apply callG); (focus rfl); (focus exact cal_pop); (focus exact pop G bm env (base ++ [b]) a q (by simp; omega)); (focus exact takeD); (focus rfl); (focus exact appD))
  | exact True.intro | refine stpH ?_ | refine two ?_ ?_ | refine allc fun c_ => ?_
  | (refine imp fun hc => ?_) <;> try exact cx1 hc
  | refine all fun v_ => ?_)
 obtain ⟨w1, rfl⟩ : ∃ x, x = v_ := ⟨_, rfl⟩
 repeat' (first
  | ((with_reducible apply callG); (focus rfl); (focus exact cal_pop); (focus exact pop G bm env base b w1 (by omega)); (focus exact takeD); (focus rfl); (focus exact appD))
  | exact True.intro | refine stpH ?_ | refine two ?_ ?_ | refine allc fun c_ => ?_
  | (refine imp fun hc => ?_) <;> try exact cx1 hc
  | refine all fun v_ => ?_)
 rename Sl => w2
 repeat' (first
  | ((with_reducible apply (jmkmapE (Value.int .i64) (fun v : Value => v))); (focus rfl))
  | ((with_reducible apply (js_insMr (keyK_int .i64) (vv := fun v : Value => v))); (focus rfl); (focus rfl); (focus rfl); (focus exact fun _ _ _ h => h); (focus rfl); (focus rfl); (focus exact updD); (focus rfl))
  | ((with_reducible apply jp); (focus ((with_reducible apply (pu_lookM1 (keyK_int .i64) (vv := fun v : Value => v))); (focus rfl); (focus rfl); (focus rfl); (focus rfl); (focus exact memD); (focus rfl))); (focus rfl))
  | ((with_reducible apply callGV); (focus rfl); (focus rfl); (focus exact cal_do3); (focus exact clo3 G _ _ a b ha hb'); (focus exact takeD); (focus rfl); (focus exact appD))
  | exact True.intro | refine stpH ?_ | refine two ?_ ?_ | refine allc fun c_ => ?_
  | (refine imp fun hc => ?_) <;> try exact cx1 hc
  | refine all fun v_ => ?_)
 all_goals first
 | (refine retv (VS.take (hc := [.cells bm 189 [.val w2.v, .d (intsD env)], rowE w2.v 3 1 intC base]) (by exact takedD) (Env.le_refl _)) ?_
    exact ⟨w2, .inr ⟨(by unfold limP; omega), rfl, rfl⟩⟩)
 | (refine retv (VS.take (hc := [.cells bm 189 [.val v_.v, .d (intsD env)], rowE v_.v 3 1 intC (base ++ [a * b])]) (by exact takedD) (Env.le_refl _)) ?_
    exact ⟨v_, .inl ⟨(by unfold limP; omega), rfl, rfl⟩⟩)
theorem do_eq (G : List (Nat × List D)) (bm : Nat) (env base : List Int) (v a b : Int) (q : Sl) (hb : base.length ≤ 900) (ha : limP a) (hb' : limP b) (hn : -2000000000000 ≤ (if decide (a = b) = true then 1 else 0) ∧ (if decide (a = b) = true then 1 else 0) ≤ 2000000000000) : AC Tryz.prog G 138 [.val (.pointer (some ⟨bm, 0, none⟩)), .agg [.int 6, .int v]] [.cells bm 189 [.val q.v, .d (intsD env)], rowE q.v 3 1 intC (base ++ [b] ++ [a])] (DoQ bm env base ((if decide (a = b) = true then 1 else 0))) := by
 refine AC_ofV (ts := []) Tryz.f138.ntmps Tryz.func138 rfl rfl rfl (by simp [Tryz.ntmps138]) fun W I => ?_
 repeat' (first
  | ((with_reducible apply callG); (focus rfl); (focus exact cal_pop); (focus exact pop G bm env (base ++ [b]) a q (by simp; omega)); (focus exact takeD); (focus rfl); (focus exact appD))
  | exact True.intro | refine stpH ?_ | refine two ?_ ?_ | refine allc fun c_ => ?_
  | (refine imp fun hc => ?_) <;> try exact cx1 hc
  | refine all fun v_ => ?_)
 obtain ⟨w1, rfl⟩ : ∃ x, x = v_ := ⟨_, rfl⟩
 repeat' (first
  | ((with_reducible apply callG); (focus rfl); (focus exact cal_pop); (focus exact pop G bm env base b w1 (by omega)); (focus exact takeD); (focus rfl); (focus exact appD))
  | exact True.intro | refine stpH ?_ | refine two ?_ ?_ | refine allc fun c_ => ?_
  | (refine imp fun hc => ?_) <;> try exact cx1 hc
  | refine all fun v_ => ?_)
 rename Sl => w2
 repeat' (first
  | ((with_reducible apply (jmkmapE (Value.int .i64) (fun v : Value => v))); (focus rfl))
  | ((with_reducible apply (js_insMr (keyK_int .i64) (vv := fun v : Value => v))); (focus rfl); (focus rfl); (focus rfl); (focus exact fun _ _ _ h => h); (focus rfl); (focus rfl); (focus exact updD); (focus rfl))
  | ((with_reducible apply jp); (focus ((with_reducible apply (pu_lookM1 (keyK_int .i64) (vv := fun v : Value => v))); (focus rfl); (focus rfl); (focus rfl); (focus rfl); (focus exact memD); (focus rfl))); (focus rfl))
  | ((with_reducible apply callGV); (focus rfl); (focus rfl); (focus exact cal_do4); (focus exact clo4 G _ _ a b ha hb'); (focus exact takeD); (focus rfl); (focus exact appD))
  | exact True.intro | refine stpH ?_ | refine two ?_ ?_ | refine allc fun c_ => ?_
  | (refine imp fun hc => ?_) <;> try exact cx1 hc
  | refine all fun v_ => ?_)
 all_goals first
 | (refine retv (VS.take (hc := [.cells bm 189 [.val w2.v, .d (intsD env)], rowE w2.v 3 1 intC base]) (by exact takedD) (Env.le_refl _)) ?_
    exact ⟨w2, .inr ⟨(by unfold limP; omega), rfl, rfl⟩⟩)
 | (refine retv (VS.take (hc := [.cells bm 189 [.val v_.v, .d (intsD env)], rowE v_.v 3 1 intC (base ++ [(if decide (a = b) = true then 1 else 0)])]) (by exact takedD) (Env.le_refl _)) ?_
    exact ⟨v_, .inl ⟨(by unfold limP; omega), rfl, rfl⟩⟩)
theorem do_lt (G : List (Nat × List D)) (bm : Nat) (env base : List Int) (v a b : Int) (q : Sl) (hb : base.length ≤ 900) (ha : limP a) (hb' : limP b) (hn : -2000000000000 ≤ (if decide (a < b) = true then 1 else 0) ∧ (if decide (a < b) = true then 1 else 0) ≤ 2000000000000) : AC Tryz.prog G 138 [.val (.pointer (some ⟨bm, 0, none⟩)), .agg [.int 7, .int v]] [.cells bm 189 [.val q.v, .d (intsD env)], rowE q.v 3 1 intC (base ++ [b] ++ [a])] (DoQ bm env base ((if decide (a < b) = true then 1 else 0))) := by
 refine AC_ofV (ts := []) Tryz.f138.ntmps Tryz.func138 rfl rfl rfl (by simp [Tryz.ntmps138]) fun W I => ?_
 repeat' (first
  | ((with_reducible apply callG); (focus rfl); (focus exact cal_pop); (focus exact pop G bm env (base ++ [b]) a q (by simp; omega)); (focus exact takeD); (focus rfl); (focus exact appD))
  | exact True.intro | refine stpH ?_ | refine two ?_ ?_ | refine allc fun c_ => ?_
  | (refine imp fun hc => ?_) <;> try exact cx1 hc
  | refine all fun v_ => ?_)
 obtain ⟨w1, rfl⟩ : ∃ x, x = v_ := ⟨_, rfl⟩
 repeat' (first
  | ((with_reducible apply callG); (focus rfl); (focus exact cal_pop); (focus exact pop G bm env base b w1 (by omega)); (focus exact takeD); (focus rfl); (focus exact appD))
  | exact True.intro | refine stpH ?_ | refine two ?_ ?_ | refine allc fun c_ => ?_
  | (refine imp fun hc => ?_) <;> try exact cx1 hc
  | refine all fun v_ => ?_)
 rename Sl => w2
 repeat' (first
  | ((with_reducible apply (jmkmapE (Value.int .i64) (fun v : Value => v))); (focus rfl))
  | ((with_reducible apply (js_insMr (keyK_int .i64) (vv := fun v : Value => v))); (focus rfl); (focus rfl); (focus rfl); (focus exact fun _ _ _ h => h); (focus rfl); (focus rfl); (focus exact updD); (focus rfl))
  | ((with_reducible apply jp); (focus ((with_reducible apply (pu_lookM1 (keyK_int .i64) (vv := fun v : Value => v))); (focus rfl); (focus rfl); (focus rfl); (focus rfl); (focus exact memD); (focus rfl))); (focus rfl))
  | ((with_reducible apply callGV); (focus rfl); (focus rfl); (focus exact cal_do5); (focus exact clo5 G _ _ a b ha hb'); (focus exact takeD); (focus rfl); (focus exact appD))
  | exact True.intro | refine stpH ?_ | refine two ?_ ?_ | refine allc fun c_ => ?_
  | (refine imp fun hc => ?_) <;> try exact cx1 hc
  | refine all fun v_ => ?_)
 all_goals first
 | (refine retv (VS.take (hc := [.cells bm 189 [.val w2.v, .d (intsD env)], rowE w2.v 3 1 intC base]) (by exact takedD) (Env.le_refl _)) ?_
    exact ⟨w2, .inr ⟨(by unfold limP; omega), rfl, rfl⟩⟩)
 | (refine retv (VS.take (hc := [.cells bm 189 [.val v_.v, .d (intsD env)], rowE v_.v 3 1 intC (base ++ [(if decide (a < b) = true then 1 else 0)])]) (by exact takedD) (Env.le_refl _)) ?_
    exact ⟨v_, .inl ⟨(by unfold limP; omega), rfl, rfl⟩⟩)
theorem do_and (G : List (Nat × List D)) (bm : Nat) (env base : List Int) (v a b : Int) (q : Sl) (hb : base.length ≤ 900) (ha : limP a) (hb' : limP b) (hn : -2000000000000 ≤ bits .and .i64 a b ∧ bits .and .i64 a b ≤ 2000000000000) : AC Tryz.prog G 138 [.val (.pointer (some ⟨bm, 0, none⟩)), .agg [.int 8, .int v]] [.cells bm 189 [.val q.v, .d (intsD env)], rowE q.v 3 1 intC (base ++ [b] ++ [a])] (DoQ bm env base (bits .and .i64 a b)) := by
 refine AC_ofV (ts := []) Tryz.f138.ntmps Tryz.func138 rfl rfl rfl (by simp [Tryz.ntmps138]) fun W I => ?_
 repeat' (first
  | ((with_reducible apply callG); (focus rfl); (focus exact cal_pop); (focus exact pop G bm env (base ++ [b]) a q (by simp; omega)); (focus exact takeD); (focus rfl); (focus exact appD))
  | exact True.intro | refine stpH ?_ | refine two ?_ ?_ | refine allc fun c_ => ?_
  | (refine imp fun hc => ?_) <;> try exact cx1 hc
  | refine all fun v_ => ?_)
 obtain ⟨w1, rfl⟩ : ∃ x, x = v_ := ⟨_, rfl⟩
 repeat' (first
  | ((with_reducible apply callG); (focus rfl); (focus exact cal_pop); (focus exact pop G bm env base b w1 (by omega)); (focus exact takeD); (focus rfl); (focus exact appD))
  | exact True.intro | refine stpH ?_ | refine two ?_ ?_ | refine allc fun c_ => ?_
  | (refine imp fun hc => ?_) <;> try exact cx1 hc
  | refine all fun v_ => ?_)
 rename Sl => w2
 repeat' (first
  | ((with_reducible apply (jmkmapE (Value.int .i64) (fun v : Value => v))); (focus rfl))
  | ((with_reducible apply (js_insMr (keyK_int .i64) (vv := fun v : Value => v))); (focus rfl); (focus rfl); (focus rfl); (focus exact fun _ _ _ h => h); (focus rfl); (focus rfl); (focus exact updD); (focus rfl))
  | ((with_reducible apply jp); (focus ((with_reducible apply (pu_lookM1 (keyK_int .i64) (vv := fun v : Value => v))); (focus rfl); (focus rfl); (focus rfl); (focus rfl); (focus exact memD); (focus rfl))); (focus rfl))
  | ((with_reducible apply callGV); (focus rfl); (focus rfl); (focus exact cal_do6); (focus exact clo6 G _ _ a b ha hb'); (focus exact takeD); (focus rfl); (focus exact appD))
  | exact True.intro | refine stpH ?_ | refine two ?_ ?_ | refine allc fun c_ => ?_
  | (refine imp fun hc => ?_) <;> try exact cx1 hc
  | refine all fun v_ => ?_)
 all_goals first
 | (refine retv (VS.take (hc := [.cells bm 189 [.val w2.v, .d (intsD env)], rowE w2.v 3 1 intC base]) (by exact takedD) (Env.le_refl _)) ?_
    exact ⟨w2, .inr ⟨(by unfold limP; omega), rfl, rfl⟩⟩)
 | (refine retv (VS.take (hc := [.cells bm 189 [.val v_.v, .d (intsD env)], rowE v_.v 3 1 intC (base ++ [bits .and .i64 a b])]) (by exact takedD) (Env.le_refl _)) ?_
    exact ⟨v_, .inl ⟨(by unfold limP; omega), rfl, rfl⟩⟩)
theorem do_or (G : List (Nat × List D)) (bm : Nat) (env base : List Int) (v a b : Int) (q : Sl) (hb : base.length ≤ 900) (ha : limP a) (hb' : limP b) (hn : -2000000000000 ≤ bits .or .i64 a b ∧ bits .or .i64 a b ≤ 2000000000000) : AC Tryz.prog G 138 [.val (.pointer (some ⟨bm, 0, none⟩)), .agg [.int 9, .int v]] [.cells bm 189 [.val q.v, .d (intsD env)], rowE q.v 3 1 intC (base ++ [b] ++ [a])] (DoQ bm env base (bits .or .i64 a b)) := by
 refine AC_ofV (ts := []) Tryz.f138.ntmps Tryz.func138 rfl rfl rfl (by simp [Tryz.ntmps138]) fun W I => ?_
 repeat' (first
  | ((with_reducible apply callG); (focus rfl); (focus exact cal_pop); (focus exact pop G bm env (base ++ [b]) a q (by simp; omega)); (focus exact takeD); (focus rfl); (focus exact appD))
  | exact True.intro | refine stpH ?_ | refine two ?_ ?_ | refine allc fun c_ => ?_
  | (refine imp fun hc => ?_) <;> try exact cx1 hc
  | refine all fun v_ => ?_)
 obtain ⟨w1, rfl⟩ : ∃ x, x = v_ := ⟨_, rfl⟩
 repeat' (first
  | ((with_reducible apply callG); (focus rfl); (focus exact cal_pop); (focus exact pop G bm env base b w1 (by omega)); (focus exact takeD); (focus rfl); (focus exact appD))
  | exact True.intro | refine stpH ?_ | refine two ?_ ?_ | refine allc fun c_ => ?_
  | (refine imp fun hc => ?_) <;> try exact cx1 hc
  | refine all fun v_ => ?_)
 rename Sl => w2
 repeat' (first
  | ((with_reducible apply (jmkmapE (Value.int .i64) (fun v : Value => v))); (focus rfl))
  | ((with_reducible apply (js_insMr (keyK_int .i64) (vv := fun v : Value => v))); (focus rfl); (focus rfl); (focus rfl); (focus exact fun _ _ _ h => h); (focus rfl); (focus rfl); (focus exact updD); (focus rfl))
  | ((with_reducible apply jp); (focus ((with_reducible apply (pu_lookM1 (keyK_int .i64) (vv := fun v : Value => v))); (focus rfl); (focus rfl); (focus rfl); (focus rfl); (focus exact memD); (focus rfl))); (focus rfl))
  | ((with_reducible apply callGV); (focus rfl); (focus rfl); (focus exact cal_do7); (focus exact clo7 G _ _ a b ha hb'); (focus exact takeD); (focus rfl); (focus exact appD))
  | exact True.intro | refine stpH ?_ | refine two ?_ ?_ | refine allc fun c_ => ?_
  | (refine imp fun hc => ?_) <;> try exact cx1 hc
  | refine all fun v_ => ?_)
 all_goals first
 | (refine retv (VS.take (hc := [.cells bm 189 [.val w2.v, .d (intsD env)], rowE w2.v 3 1 intC base]) (by exact takedD) (Env.le_refl _)) ?_
    exact ⟨w2, .inr ⟨(by unfold limP; omega), rfl, rfl⟩⟩)
 | (refine retv (VS.take (hc := [.cells bm 189 [.val v_.v, .d (intsD env)], rowE v_.v 3 1 intC (base ++ [bits .or .i64 a b])]) (by exact takedD) (Env.le_refl _)) ?_
    exact ⟨v_, .inl ⟨(by unfold limP; omega), rfl, rfl⟩⟩)
end Go.Proofs.YtniklgkoiaeipaaGreatDoor
