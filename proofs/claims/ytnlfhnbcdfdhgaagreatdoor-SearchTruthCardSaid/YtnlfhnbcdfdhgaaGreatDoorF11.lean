/- A bundle of this claim's own texts: Y2. -/
import Derived.Test.YtnlfhnbcdfdhgaaGreatDoorF10
set_option linter.unusedVariables false
set_option linter.unusedSimpArgs false
set_option maxRecDepth 100000
set_option maxHeartbeats 4000000
namespace Go.Proofs.YtnlfhnbcdfdhgaaGreatDoor
open Go Go.Av Go.Sp
theorem Zn : Cal Tryz.prog 135 := Cal.of Tryz.func135 (by kernel_rfl) (by kernel_rfl)
def eO : List PanicEntry := [{ v := .iface 34 (.int .i64 8), recovered := false }]
def DoQ (bm : Nat) (env base : List Int) (n : Int) (r : AE) (h : H) : Prop :=
 ∃ v : Sl, (Ak n ∧ r = .ret (.tup []) ∧ h = [.cells bm 193 [.val v.v, .d (AK env)], AH v.v 3 1 Aa (base ++ [n])]) ∨ (¬ Ak n ∧ r = .pan eO ∧ h = [.cells bm 193 [.val v.v, .d (AK env)], AH v.v 3 1 Aa base])
theorem do0 (G : List (Nat × List D)) (bm : Nat) (env base : List Int) (k v n : Int) (q : Sl) (hb : base.length ≤ 1000) (h : (k = 1 ∧ n = v ∧ Ak v) ∨ (k = 11 ∧ n = 1) ∨ (k = 12 ∧ n = 0)) : AC Tryz.prog G 135 [.val (.pointer (some ⟨bm, 0, none⟩)), .agg [.int k, .int v]] [.cells bm 193 [.val q.v, .d (AK env)], AH q.v 3 1 Aa base] (DoQ bm env base n) := by
 unfold Ak at h
 refine AJ (ts := []) Tryz.f135.ntmps Tryz.func135 rfl rfl rfl (by simp [Tryz.ntmps135]) fun W I => ?_
 rcases h with ⟨rfl, rfl, h⟩ | ⟨rfl, rfl⟩ | ⟨rfl, rfl⟩
 all_goals
  repeat' (first
   | exact True.intro | refine AG ?_ | refine two ?_ ?_ | refine AF fun c_ => ?_
   | (refine imp fun hc => ?_) <;> try exact cx1 hc
   | refine all fun v_ => ?_)
  all_goals first
   | (exfalso; unfold Ak at *; omega)
   | (refine AN (VS.take (hc := [.cells bm 193 [.val v_.v, .d (AK env)], AH v_.v 3 1 Aa (base ++ [_])]) (by exact AD) (Env.le_refl _)) ?_
      exact ⟨v_, .inl ⟨by unfold Ak; omega, rfl, rfl⟩⟩)
   | (refine AN (VS.take (hc := [.cells bm 193 [.val q.v, .d (AK env)], AH q.v 3 1 Aa base]) (by exact AD) (Env.le_refl _)) ?_
      exact ⟨_, .inr ⟨by unfold Ak; omega, rfl, rfl⟩⟩)
theorem dov (G : List (Nat × List D)) (bm : Nat) (env base : List Int) (v : Int) (q : Sl) (hb : base.length ≤ 1000) (h0 : 0 ≤ v) (h1 : v.toNat < env.length) : AC Tryz.prog G 135 [.val (.pointer (some ⟨bm, 0, none⟩)), .agg [.int 2, .int v]] [.cells bm 193 [.val q.v, .d (AK env)], AH q.v 3 1 Aa base] (DoQ bm env base env[v.toNat]) := by
 refine AJ (ts := []) Tryz.f135.ntmps Tryz.func135 rfl rfl rfl (by simp [Tryz.ntmps135]) fun W I => ?_
 repeat' (first
  | exact True.intro | refine AG ?_ | refine two ?_ ?_ | refine AF fun c_ => ?_
  | (refine imp fun hc => ?_) <;> try exact cx1 hc
  | refine all fun v_ => ?_)
 all_goals first
  | (exfalso; unfold Ak at *; omega)
  | (refine AN (VS.take (hc := [.cells bm 193 [.val v_.v, .d (AK env)], AH v_.v 3 1 Aa (base ++ [_])]) (by exact AD) (Env.le_refl _)) ?_
     exact ⟨v_, .inl ⟨by unfold Ak; omega, rfl, rfl⟩⟩)
  | (refine AN (VS.take (hc := [.cells bm 193 [.val q.v, .d (AK env)], AH q.v 3 1 Aa base]) (by exact AD) (Env.le_refl _)) ?_
     exact ⟨_, .inr ⟨by unfold Ak; omega, rfl, rfl⟩⟩)
theorem don (G : List (Nat × List D)) (bm : Nat) (env base : List Int) (v a : Int) (q : Sl) (hb : base.length ≤ 1000) (ha : a = 0 ∨ a = 1) : AC Tryz.prog G 135 [.val (.pointer (some ⟨bm, 0, none⟩)), .agg [.int 10, .int v]] [.cells bm 193 [.val q.v, .d (AK env)], AH q.v 3 1 Aa (base ++ [a])] (DoQ bm env base (1 - a)) := by
 refine AJ (ts := []) Tryz.f135.ntmps Tryz.func135 rfl rfl rfl (by simp [Tryz.ntmps135]) fun W I => ?_
 repeat' (first
  | refine cag B8 (pop G bm env base a q hb) ?_
  | exact True.intro | refine AG ?_ | refine two ?_ ?_ | refine AF fun c_ => ?_
  | (refine imp fun hc => ?_) <;> try exact cx1 hc
  | refine all fun v_ => ?_)
 refine AN (VS.take (hc := [.cells bm 193 [.val v_.v, .d (AK env)], AH v_.v 3 1 Aa (base ++ [1 - a])]) (by exact AD) (Env.le_refl _)) ?_
 exact ⟨v_, .inl ⟨by unfold Ak; omega, rfl, rfl⟩⟩
theorem ck (G : List (Nat × List D)) (bm : Nat) (env base : List Int) (v a b : Int) (q : Sl) (hb : base.length ≤ 900) (ha : Ak a) (hb' : Ak b) (hn : -2000000000000 ≤ a + b ∧ a + b ≤ 2000000000000) : AC Tryz.prog G 135 [.val (.pointer (some ⟨bm, 0, none⟩)), .agg [.int 3, .int v]] [.cells bm 193 [.val q.v, .d (AK env)], AH q.v 3 1 Aa (base ++ [b] ++ [a])] (DoQ bm env base (a + b)) := by
 refine AJ (ts := []) Tryz.f135.ntmps Tryz.func135 rfl rfl rfl (by simp [Tryz.ntmps135]) fun W I => ?_
 repeat' (first
  | ((with_reducible apply As); (focus rfl); (focus exact B8); (focus exact pop G bm env (base ++ [b]) a q (by simp; omega)); (focus exact AW); (focus rfl); (focus exact BO))
  | exact True.intro | refine AG ?_ | refine two ?_ ?_ | refine AF fun c_ => ?_
  | (refine imp fun hc => ?_) <;> try exact cx1 hc
  | refine all fun v_ => ?_)
 obtain ⟨w1, rfl⟩ : ∃ x, x = v_ := ⟨_, rfl⟩
 repeat' (first
  | ((with_reducible apply As); (focus rfl); (focus exact B8); (focus exact pop G bm env base b w1 (by omega)); (focus exact AW); (focus rfl); (focus exact BO))
  | exact True.intro | refine AG ?_ | refine two ?_ ?_ | refine AF fun c_ => ?_
  | (refine imp fun hc => ?_) <;> try exact cx1 hc
  | refine all fun v_ => ?_)
 rename Sl => w2
 repeat' (first
  | ((with_reducible apply (FR (Value.int .i64) (fun v : Value => v))); (focus rfl))
  | ((with_reducible apply (FD (AS .i64) (vv := fun v : Value => v))); (focus rfl); (focus rfl); (focus rfl); (focus exact fun _ _ _ h => h); (focus rfl); (focus rfl); (focus exact CI); (focus rfl))
  | ((with_reducible apply jp); (focus ((with_reducible apply (Du (AS .i64) (vv := fun v : Value => v))); (focus rfl); (focus rfl); (focus rfl); (focus rfl); (focus exact Ab); (focus rfl))); (focus rfl))
  | ((with_reducible apply Ev); (focus rfl); (focus rfl); (focus exact bS); (focus exact clo1 G _ _ a b ha hb'); (focus exact AW); (focus rfl); (focus exact BO))
  | exact True.intro | refine AG ?_ | refine two ?_ ?_ | refine AF fun c_ => ?_
  | (refine imp fun hc => ?_) <;> try exact cx1 hc
  | refine all fun v_ => ?_)
 all_goals first
 | (refine AN (VS.take (hc := [.cells bm 193 [.val w2.v, .d (AK env)], AH w2.v 3 1 Aa base]) (by exact AD) (Env.le_refl _)) ?_
    exact ⟨w2, .inr ⟨(by unfold Ak; omega), rfl, rfl⟩⟩)
 | (refine AN (VS.take (hc := [.cells bm 193 [.val v_.v, .d (AK env)], AH v_.v 3 1 Aa (base ++ [a + b])]) (by exact AD) (Env.le_refl _)) ?_
    exact ⟨v_, .inl ⟨(by unfold Ak; omega), rfl, rfl⟩⟩)
theorem dM (G : List (Nat × List D)) (bm : Nat) (env base : List Int) (v a b : Int) (q : Sl) (hb : base.length ≤ 900) (ha : Ak a) (hb' : Ak b) (hn : -2000000000000 ≤ a - b ∧ a - b ≤ 2000000000000) : AC Tryz.prog G 135 [.val (.pointer (some ⟨bm, 0, none⟩)), .agg [.int 4, .int v]] [.cells bm 193 [.val q.v, .d (AK env)], AH q.v 3 1 Aa (base ++ [b] ++ [a])] (DoQ bm env base (a - b)) := by
 refine AJ (ts := []) Tryz.f135.ntmps Tryz.func135 rfl rfl rfl (by simp [Tryz.ntmps135]) fun W I => ?_
 repeat' (first
  | ((with_reducible apply As); (focus rfl); (focus exact B8); (focus exact pop G bm env (base ++ [b]) a q (by simp; omega)); (focus exact AW); (focus rfl); (focus exact BO))
  | exact True.intro | refine AG ?_ | refine two ?_ ?_ | refine AF fun c_ => ?_
  | (refine imp fun hc => ?_) <;> try exact cx1 hc
  | refine all fun v_ => ?_)
 obtain ⟨w1, rfl⟩ : ∃ x, x = v_ := ⟨_, rfl⟩
 repeat' (first
  | ((with_reducible apply As); (focus rfl); (focus exact B8); (focus exact pop G bm env base b w1 (by omega)); (focus exact AW); (focus rfl); (focus exact BO))
  | exact True.intro | refine AG ?_ | refine two ?_ ?_ | refine AF fun c_ => ?_
  | (refine imp fun hc => ?_) <;> try exact cx1 hc
  | refine all fun v_ => ?_)
 rename Sl => w2
 repeat' (first
  | ((with_reducible apply (FR (Value.int .i64) (fun v : Value => v))); (focus rfl))
  | ((with_reducible apply (FD (AS .i64) (vv := fun v : Value => v))); (focus rfl); (focus rfl); (focus rfl); (focus exact fun _ _ _ h => h); (focus rfl); (focus rfl); (focus exact CI); (focus rfl))
  | ((with_reducible apply jp); (focus ((with_reducible apply (Du (AS .i64) (vv := fun v : Value => v))); (focus rfl); (focus rfl); (focus rfl); (focus rfl); (focus exact Ab); (focus rfl))); (focus rfl))
  | ((with_reducible apply Ev); (focus rfl); (focus rfl); (focus exact Zw); (focus exact clo2 G _ _ a b ha hb'); (focus exact AW); (focus rfl); (focus exact BO))
  | exact True.intro | refine AG ?_ | refine two ?_ ?_ | refine AF fun c_ => ?_
  | (refine imp fun hc => ?_) <;> try exact cx1 hc
  | refine all fun v_ => ?_)
 all_goals first
 | (refine AN (VS.take (hc := [.cells bm 193 [.val w2.v, .d (AK env)], AH w2.v 3 1 Aa base]) (by exact AD) (Env.le_refl _)) ?_
    exact ⟨w2, .inr ⟨(by unfold Ak; omega), rfl, rfl⟩⟩)
 | (refine AN (VS.take (hc := [.cells bm 193 [.val v_.v, .d (AK env)], AH v_.v 3 1 Aa (base ++ [a - b])]) (by exact AD) (Env.le_refl _)) ?_
    exact ⟨v_, .inl ⟨(by unfold Ak; omega), rfl, rfl⟩⟩)
theorem cv (G : List (Nat × List D)) (bm : Nat) (env base : List Int) (v a b : Int) (q : Sl) (hb : base.length ≤ 900) (ha : Ak a) (hb' : Ak b) (hn : -2000000000000 ≤ a * b ∧ a * b ≤ 2000000000000) : AC Tryz.prog G 135 [.val (.pointer (some ⟨bm, 0, none⟩)), .agg [.int 5, .int v]] [.cells bm 193 [.val q.v, .d (AK env)], AH q.v 3 1 Aa (base ++ [b] ++ [a])] (DoQ bm env base (a * b)) := by
 refine AJ (ts := []) Tryz.f135.ntmps Tryz.func135 rfl rfl rfl (by simp [Tryz.ntmps135]) fun W I => ?_
 repeat' (first
  | ((with_reducible apply As); (focus rfl); (focus exact B8); (focus exact pop G bm env (base ++ [b]) a q (by simp; omega)); (focus exact AW); (focus rfl); (focus exact BO))
  | exact True.intro | refine AG ?_ | refine two ?_ ?_ | refine AF fun c_ => ?_
  | (refine imp fun hc => ?_) <;> try exact cx1 hc
  | refine all fun v_ => ?_)
 obtain ⟨w1, rfl⟩ : ∃ x, x = v_ := ⟨_, rfl⟩
 repeat' (first
  | ((with_reducible apply As); (focus rfl); (focus exact B8); (focus exact pop G bm env base b w1 (by omega)); (focus exact AW); (focus rfl); (focus exact BO))
  | exact True.intro | refine AG ?_ | refine two ?_ ?_ | refine AF fun c_ => ?_
  | (refine imp fun hc => ?_) <;> try exact cx1 hc
  | refine all fun v_ => ?_)
 rename Sl => w2
 repeat' (first
  | ((with_reducible apply (FR (Value.int .i64) (fun v : Value => v))); (focus rfl))
  | ((with_reducible apply (FD (AS .i64) (vv := fun v : Value => v))); (focus rfl); (focus rfl); (focus rfl); (focus exact fun _ _ _ h => h); (focus rfl); (focus rfl); (focus exact CI); (focus rfl))
  | ((with_reducible apply jp); (focus ((with_reducible apply (Du (AS .i64) (vv := fun v : Value => v))); (focus rfl); (focus rfl); (focus rfl); (focus rfl); (focus exact Ab); (focus rfl))); (focus rfl))
  | ((with_reducible apply Ev); (focus rfl); (focus rfl); (focus exact Zk); (focus exact clo3 G _ _ a b ha hb'); (focus exact AW); (focus rfl); (focus exact BO))
  | exact True.intro | refine AG ?_ | refine two ?_ ?_ | refine AF fun c_ => ?_
  | (refine imp fun hc => ?_) <;> try exact cx1 hc
  | refine all fun v_ => ?_)
 all_goals first
 | (refine AN (VS.take (hc := [.cells bm 193 [.val w2.v, .d (AK env)], AH w2.v 3 1 Aa base]) (by exact AD) (Env.le_refl _)) ?_
    exact ⟨w2, .inr ⟨(by unfold Ak; omega), rfl, rfl⟩⟩)
 | (refine AN (VS.take (hc := [.cells bm 193 [.val v_.v, .d (AK env)], AH v_.v 3 1 Aa (base ++ [a * b])]) (by exact AD) (Env.le_refl _)) ?_
    exact ⟨v_, .inl ⟨(by unfold Ak; omega), rfl, rfl⟩⟩)
theorem fQ (G : List (Nat × List D)) (bm : Nat) (env base : List Int) (v a b : Int) (q : Sl) (hb : base.length ≤ 900) (ha : Ak a) (hb' : Ak b) (hn : -2000000000000 ≤ (if decide (a = b) = true then 1 else 0) ∧ (if decide (a = b) = true then 1 else 0) ≤ 2000000000000) : AC Tryz.prog G 135 [.val (.pointer (some ⟨bm, 0, none⟩)), .agg [.int 6, .int v]] [.cells bm 193 [.val q.v, .d (AK env)], AH q.v 3 1 Aa (base ++ [b] ++ [a])] (DoQ bm env base ((if decide (a = b) = true then 1 else 0))) := by
 refine AJ (ts := []) Tryz.f135.ntmps Tryz.func135 rfl rfl rfl (by simp [Tryz.ntmps135]) fun W I => ?_
 repeat' (first
  | ((with_reducible apply As); (focus rfl); (focus exact B8); (focus exact pop G bm env (base ++ [b]) a q (by simp; omega)); (focus exact AW); (focus rfl); (focus exact BO))
  | exact True.intro | refine AG ?_ | refine two ?_ ?_ | refine AF fun c_ => ?_
  | (refine imp fun hc => ?_) <;> try exact cx1 hc
  | refine all fun v_ => ?_)
 obtain ⟨w1, rfl⟩ : ∃ x, x = v_ := ⟨_, rfl⟩
 repeat' (first
  | ((with_reducible apply As); (focus rfl); (focus exact B8); (focus exact pop G bm env base b w1 (by omega)); (focus exact AW); (focus rfl); (focus exact BO))
  | exact True.intro | refine AG ?_ | refine two ?_ ?_ | refine AF fun c_ => ?_
  | (refine imp fun hc => ?_) <;> try exact cx1 hc
  | refine all fun v_ => ?_)
 rename Sl => w2
 repeat' (first
  | ((with_reducible apply (FR (Value.int .i64) (fun v : Value => v))); (focus rfl))
  | ((with_reducible apply (FD (AS .i64) (vv := fun v : Value => v))); (focus rfl); (focus rfl); (focus rfl); (focus exact fun _ _ _ h => h); (focus rfl); (focus rfl); (focus exact CI); (focus rfl))
  | ((with_reducible apply jp); (focus ((with_reducible apply (Du (AS .i64) (vv := fun v : Value => v))); (focus rfl); (focus rfl); (focus rfl); (focus rfl); (focus exact Ab); (focus rfl))); (focus rfl))
  | ((with_reducible apply Ev); (focus rfl); (focus rfl); (focus exact bV); (focus exact clo4 G _ _ a b ha hb'); (focus exact AW); (focus rfl); (focus exact BO))
  | exact True.intro | refine AG ?_ | refine two ?_ ?_ | refine AF fun c_ => ?_
  | (refine imp fun hc => ?_) <;> try exact cx1 hc
  | refine all fun v_ => ?_)
 all_goals first
 | (refine AN (VS.take (hc := [.cells bm 193 [.val w2.v, .d (AK env)], AH w2.v 3 1 Aa base]) (by exact AD) (Env.le_refl _)) ?_
    exact ⟨w2, .inr ⟨(by unfold Ak; omega), rfl, rfl⟩⟩)
 | (refine AN (VS.take (hc := [.cells bm 193 [.val v_.v, .d (AK env)], AH v_.v 3 1 Aa (base ++ [(if decide (a = b) = true then 1 else 0)])]) (by exact AD) (Env.le_refl _)) ?_
    exact ⟨v_, .inl ⟨(by unfold Ak; omega), rfl, rfl⟩⟩)
theorem fH (G : List (Nat × List D)) (bm : Nat) (env base : List Int) (v a b : Int) (q : Sl) (hb : base.length ≤ 900) (ha : Ak a) (hb' : Ak b) (hn : -2000000000000 ≤ (if decide (a < b) = true then 1 else 0) ∧ (if decide (a < b) = true then 1 else 0) ≤ 2000000000000) : AC Tryz.prog G 135 [.val (.pointer (some ⟨bm, 0, none⟩)), .agg [.int 7, .int v]] [.cells bm 193 [.val q.v, .d (AK env)], AH q.v 3 1 Aa (base ++ [b] ++ [a])] (DoQ bm env base ((if decide (a < b) = true then 1 else 0))) := by
 refine AJ (ts := []) Tryz.f135.ntmps Tryz.func135 rfl rfl rfl (by simp [Tryz.ntmps135]) fun W I => ?_
 repeat' (first
  | ((with_reducible apply As); (focus rfl); (focus exact B8); (focus exact pop G bm env (base ++ [b]) a q (by simp; omega)); (focus exact AW); (focus rfl); (focus exact BO))
  | exact True.intro | refine AG ?_ | refine two ?_ ?_ | refine AF fun c_ => ?_
  | (refine imp fun hc => ?_) <;> try exact cx1 hc
  | refine all fun v_ => ?_)
 obtain ⟨w1, rfl⟩ : ∃ x, x = v_ := ⟨_, rfl⟩
 repeat' (first
  | ((with_reducible apply As); (focus rfl); (focus exact B8); (focus exact pop G bm env base b w1 (by omega)); (focus exact AW); (focus rfl); (focus exact BO))
  | exact True.intro | refine AG ?_ | refine two ?_ ?_ | refine AF fun c_ => ?_
  | (refine imp fun hc => ?_) <;> try exact cx1 hc
  | refine all fun v_ => ?_)
 rename Sl => w2
 repeat' (first
  | ((with_reducible apply (FR (Value.int .i64) (fun v : Value => v))); (focus rfl))
  | ((with_reducible apply (FD (AS .i64) (vv := fun v : Value => v))); (focus rfl); (focus rfl); (focus rfl); (focus exact fun _ _ _ h => h); (focus rfl); (focus rfl); (focus exact CI); (focus rfl))
  | ((with_reducible apply jp); (focus ((with_reducible apply (Du (AS .i64) (vv := fun v : Value => v))); (focus rfl); (focus rfl); (focus rfl); (focus rfl); (focus exact Ab); (focus rfl))); (focus rfl))
  | ((with_reducible apply Ev); (focus rfl); (focus rfl); (focus exact aS); (focus exact clo5 G _ _ a b ha hb'); (focus exact AW); (focus rfl); (focus exact BO))
  | exact True.intro | refine AG ?_ | refine two ?_ ?_ | refine AF fun c_ => ?_
  | (refine imp fun hc => ?_) <;> try exact cx1 hc
  | refine all fun v_ => ?_)
 all_goals first
 | (refine AN (VS.take (hc := [.cells bm 193 [.val w2.v, .d (AK env)], AH w2.v 3 1 Aa base]) (by exact AD) (Env.le_refl _)) ?_
    exact ⟨w2, .inr ⟨(by unfold Ak; omega), rfl, rfl⟩⟩)
 | (refine AN (VS.take (hc := [.cells bm 193 [.val v_.v, .d (AK env)], AH v_.v 3 1 Aa (base ++ [(if decide (a < b) = true then 1 else 0)])]) (by exact AD) (Env.le_refl _)) ?_
    exact ⟨v_, .inl ⟨(by unfold Ak; omega), rfl, rfl⟩⟩)
theorem cR (G : List (Nat × List D)) (bm : Nat) (env base : List Int) (v a b : Int) (q : Sl) (hb : base.length ≤ 900) (ha : Ak a) (hb' : Ak b) (hn : -2000000000000 ≤ bits .and .i64 a b ∧ bits .and .i64 a b ≤ 2000000000000) : AC Tryz.prog G 135 [.val (.pointer (some ⟨bm, 0, none⟩)), .agg [.int 8, .int v]] [.cells bm 193 [.val q.v, .d (AK env)], AH q.v 3 1 Aa (base ++ [b] ++ [a])] (DoQ bm env base (bits .and .i64 a b)) := by
 refine AJ (ts := []) Tryz.f135.ntmps Tryz.func135 rfl rfl rfl (by simp [Tryz.ntmps135]) fun W I => ?_
 repeat' (first
  | ((with_reducible apply As); (focus rfl); (focus exact B8); (focus exact pop G bm env (base ++ [b]) a q (by simp; omega)); (focus exact AW); (focus rfl); (focus exact BO))
  | exact True.intro | refine AG ?_ | refine two ?_ ?_ | refine AF fun c_ => ?_
  | (refine imp fun hc => ?_) <;> try exact cx1 hc
  | refine all fun v_ => ?_)
 obtain ⟨w1, rfl⟩ : ∃ x, x = v_ := ⟨_, rfl⟩
 repeat' (first
  | ((with_reducible apply As); (focus rfl); (focus exact B8); (focus exact pop G bm env base b w1 (by omega)); (focus exact AW); (focus rfl); (focus exact BO))
  | exact True.intro | refine AG ?_ | refine two ?_ ?_ | refine AF fun c_ => ?_
  | (refine imp fun hc => ?_) <;> try exact cx1 hc
  | refine all fun v_ => ?_)
 rename Sl => w2
 repeat' (first
  | ((with_reducible apply (FR (Value.int .i64) (fun v : Value => v))); (focus rfl))
  | ((with_reducible apply (FD (AS .i64) (vv := fun v : Value => v))); (focus rfl); (focus rfl); (focus rfl); (focus exact fun _ _ _ h => h); (focus rfl); (focus rfl); (focus exact CI); (focus rfl))
  | ((with_reducible apply jp); (focus ((with_reducible apply (Du (AS .i64) (vv := fun v : Value => v))); (focus rfl); (focus rfl); (focus rfl); (focus rfl); (focus exact Ab); (focus rfl))); (focus rfl))
  | ((with_reducible apply Ev); (focus rfl); (focus rfl); (focus exact bY); (focus exact clo6 G _ _ a b ha hb'); (focus exact AW); (focus rfl); (focus exact BO))
  | exact True.intro | refine AG ?_ | refine two ?_ ?_ | refine AF fun c_ => ?_
  | (refine imp fun hc => ?_) <;> try exact cx1 hc
  | refine all fun v_ => ?_)
 all_goals first
 | (refine AN (VS.take (hc := [.cells bm 193 [.val w2.v, .d (AK env)], AH w2.v 3 1 Aa base]) (by exact AD) (Env.le_refl _)) ?_
    exact ⟨w2, .inr ⟨(by unfold Ak; omega), rfl, rfl⟩⟩)
 | (refine AN (VS.take (hc := [.cells bm 193 [.val v_.v, .d (AK env)], AH v_.v 3 1 Aa (base ++ [bits .and .i64 a b])]) (by exact AD) (Env.le_refl _)) ?_
    exact ⟨v_, .inl ⟨(by unfold Ak; omega), rfl, rfl⟩⟩)
theorem ee (G : List (Nat × List D)) (bm : Nat) (env base : List Int) (v a b : Int) (q : Sl) (hb : base.length ≤ 900) (ha : Ak a) (hb' : Ak b) (hn : -2000000000000 ≤ bits .or .i64 a b ∧ bits .or .i64 a b ≤ 2000000000000) : AC Tryz.prog G 135 [.val (.pointer (some ⟨bm, 0, none⟩)), .agg [.int 9, .int v]] [.cells bm 193 [.val q.v, .d (AK env)], AH q.v 3 1 Aa (base ++ [b] ++ [a])] (DoQ bm env base (bits .or .i64 a b)) := by
 refine AJ (ts := []) Tryz.f135.ntmps Tryz.func135 rfl rfl rfl (by simp [Tryz.ntmps135]) fun W I => ?_
 repeat' (first
  | ((with_reducible apply As); (focus rfl); (focus exact B8); (focus exact pop G bm env (base ++ [b]) a q (by simp; omega)); (focus exact AW); (focus rfl); (focus exact BO))
  | exact True.intro | refine AG ?_ | refine two ?_ ?_ | refine AF fun c_ => ?_
  | (refine imp fun hc => ?_) <;> try exact cx1 hc
  | refine all fun v_ => ?_)
 obtain ⟨w1, rfl⟩ : ∃ x, x = v_ := ⟨_, rfl⟩
 repeat' (first
  | ((with_reducible apply As); (focus rfl); (focus exact B8); (focus exact pop G bm env base b w1 (by omega)); (focus exact AW); (focus rfl); (focus exact BO))
  | exact True.intro | refine AG ?_ | refine two ?_ ?_ | refine AF fun c_ => ?_
  | (refine imp fun hc => ?_) <;> try exact cx1 hc
  | refine all fun v_ => ?_)
 rename Sl => w2
 repeat' (first
  | ((with_reducible apply (FR (Value.int .i64) (fun v : Value => v))); (focus rfl))
  | ((with_reducible apply (FD (AS .i64) (vv := fun v : Value => v))); (focus rfl); (focus rfl); (focus rfl); (focus exact fun _ _ _ h => h); (focus rfl); (focus rfl); (focus exact CI); (focus rfl))
  | ((with_reducible apply jp); (focus ((with_reducible apply (Du (AS .i64) (vv := fun v : Value => v))); (focus rfl); (focus rfl); (focus rfl); (focus rfl); (focus exact Ab); (focus rfl))); (focus rfl))
  | ((with_reducible apply Ev); (focus rfl); (focus rfl); (focus exact bG); (focus exact clo7 G _ _ a b ha hb'); (focus exact AW); (focus rfl); (focus exact BO))
  | exact True.intro | refine AG ?_ | refine two ?_ ?_ | refine AF fun c_ => ?_
  | (refine imp fun hc => ?_) <;> try exact cx1 hc
  | refine all fun v_ => ?_)
 all_goals first
 | (refine AN (VS.take (hc := [.cells bm 193 [.val w2.v, .d (AK env)], AH w2.v 3 1 Aa base]) (by exact AD) (Env.le_refl _)) ?_
    exact ⟨w2, .inr ⟨(by unfold Ak; omega), rfl, rfl⟩⟩)
 | (refine AN (VS.take (hc := [.cells bm 193 [.val v_.v, .d (AK env)], AH v_.v 3 1 Aa (base ++ [bits .or .i64 a b])]) (by exact AD) (Env.le_refl _)) ?_
    exact ⟨v_, .inl ⟨(by unfold Ak; omega), rfl, rfl⟩⟩)
end Go.Proofs.YtnlfhnbcdfdhgaaGreatDoor
