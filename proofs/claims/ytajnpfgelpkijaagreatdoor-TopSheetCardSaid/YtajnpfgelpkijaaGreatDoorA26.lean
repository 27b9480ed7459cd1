/- A bundle of this claim's own texts: Y2. -/
import Derived.Test.YtajnpfgelpkijaaGreatDoorA18
set_option linter.unusedVariables false
set_option linter.unusedSimpArgs false
set_option maxRecDepth 100000
set_option maxHeartbeats 4000000
namespace Go.Proofs.YtajnpfgelpkijaaGreatDoor
open Go Go.Av Go.Sp
theorem cD : Cal Tryz.prog 138 := Cal.of Tryz.func138 (by kernel_rfl) (by kernel_rfl)
def gu : List PanicEntry := [{ v := .iface 30 (.int .i64 8), recovered := false }]
def DoQ (bm : Nat) (env base : List Int) (n : Int) (r : AE) (h : H) : Prop :=
 ∃ v : Sl, (Al n ∧ r = .ret (.tup []) ∧ h = [.cells bm 208 [.val v.v, .d (AP env)], AF v.v 3 1 Ag (base ++ [n])]) ∨ (¬ Al n ∧ r = .pan gu ∧ h = [.cells bm 208 [.val v.v, .d (AP env)], AF v.v 3 1 Ag base])
theorem do0 (G : List (Nat × List D)) (bm : Nat) (env base : List Int) (k v n : Int) (q : Sl) (hb : base.length ≤ 1000) (h : (k = 1 ∧ n = v ∧ Al v) ∨ (k = 11 ∧ n = 1) ∨ (k = 12 ∧ n = 0)) : AC Tryz.prog G 138 [.val (.pointer (some ⟨bm, 0, none⟩)), .agg [.int k, .int v]] [.cells bm 208 [.val q.v, .d (AP env)], AF q.v 3 1 Ag base] (DoQ bm env base n) := by
 unfold Al at h
 refine AK (ts := []) Tryz.f138.ntmps Tryz.func138 rfl rfl rfl (by simp [Tryz.ntmps138]) fun W I => ?_
 rcases h with ⟨rfl, rfl, h⟩ | ⟨rfl, rfl⟩ | ⟨rfl, rfl⟩
 all_goals
  repeat' (first
   | exact True.intro | refine AJ ?_ | refine two ?_ ?_ | refine AG fun c_ => ?_
   | (refine imp fun hc => ?_) <;> try exact cx1 hc
   | refine all fun v_ => ?_)
  all_goals first
   | (exfalso; unfold Al at *; omega)
   | (refine AO (VS.take (hc := [.cells bm 208 [.val v_.v, .d (AP env)], AF v_.v 3 1 Ag (base ++ [_])]) (by exact AB) (Env.le_refl _)) ?_
      exact ⟨v_, .inl ⟨by unfold Al; omega, rfl, rfl⟩⟩)
   | (refine AO (VS.take (hc := [.cells bm 208 [.val q.v, .d (AP env)], AF q.v 3 1 Ag base]) (by exact AB) (Env.le_refl _)) ?_
      exact ⟨_, .inr ⟨by unfold Al; omega, rfl, rfl⟩⟩)
theorem dov (G : List (Nat × List D)) (bm : Nat) (env base : List Int) (v : Int) (q : Sl) (hb : base.length ≤ 1000) (h0 : 0 ≤ v) (h1 : v.toNat < env.length) : AC Tryz.prog G 138 [.val (.pointer (some ⟨bm, 0, none⟩)), .agg [.int 2, .int v]] [.cells bm 208 [.val q.v, .d (AP env)], AF q.v 3 1 Ag base] (DoQ bm env base env[v.toNat]) := by
 refine AK (ts := []) Tryz.f138.ntmps Tryz.func138 rfl rfl rfl (by simp [Tryz.ntmps138]) fun W I => ?_
 repeat' (first
  | exact True.intro | refine AJ ?_ | refine two ?_ ?_ | refine AG fun c_ => ?_
  | (refine imp fun hc => ?_) <;> try exact cx1 hc
  | refine all fun v_ => ?_)
 all_goals first
  | (exfalso; unfold Al at *; omega)
  | (refine AO (VS.take (hc := [.cells bm 208 [.val v_.v, .d (AP env)], AF v_.v 3 1 Ag (base ++ [_])]) (by exact AB) (Env.le_refl _)) ?_
     exact ⟨v_, .inl ⟨by unfold Al; omega, rfl, rfl⟩⟩)
  | (refine AO (VS.take (hc := [.cells bm 208 [.val q.v, .d (AP env)], AF q.v 3 1 Ag base]) (by exact AB) (Env.le_refl _)) ?_
     exact ⟨_, .inr ⟨by unfold Al; omega, rfl, rfl⟩⟩)
theorem don (G : List (Nat × List D)) (bm : Nat) (env base : List Int) (v a : Int) (q : Sl) (hb : base.length ≤ 1000) (ha : a = 0 ∨ a = 1) : AC Tryz.prog G 138 [.val (.pointer (some ⟨bm, 0, none⟩)), .agg [.int 10, .int v]] [.cells bm 208 [.val q.v, .d (AP env)], AF q.v 3 1 Ag (base ++ [a])] (DoQ bm env base (1 - a)) := by
 refine AK (ts := []) Tryz.f138.ntmps Tryz.func138 rfl rfl rfl (by simp [Tryz.ntmps138]) fun W I => ?_
 repeat' (first
  | refine cag CC (pop G bm env base a q hb) ?_
  | exact True.intro | refine AJ ?_ | refine two ?_ ?_ | refine AG fun c_ => ?_
  | (refine imp fun hc => ?_) <;> try exact cx1 hc
  | refine all fun v_ => ?_)
 refine AO (VS.take (hc := [.cells bm 208 [.val v_.v, .d (AP env)], AF v_.v 3 1 Ag (base ++ [1 - a])]) (by exact AB) (Env.le_refl _)) ?_
 exact ⟨v_, .inl ⟨by unfold Al; omega, rfl, rfl⟩⟩
theorem dS (G : List (Nat × List D)) (bm : Nat) (env base : List Int) (v a b : Int) (q : Sl) (hb : base.length ≤ 900) (ha : Al a) (hb' : Al b) (hn : -2000000000000 ≤ a + b ∧ a + b ≤ 2000000000000) : AC Tryz.prog G 138 [.val (.pointer (some ⟨bm, 0, none⟩)), .agg [.int 3, .int v]] [.cells bm 208 [.val q.v, .d (AP env)], AF q.v 3 1 Ag (base ++ [b] ++ [a])] (DoQ bm env base (a + b)) := by
 refine AK (ts := []) Tryz.f138.ntmps Tryz.func138 rfl rfl rfl (by simp [Tryz.ntmps138]) fun W I => ?_
 repeat' (first
  | ((with_reducible apply Au); (focus rfl); (focus exact CC); (focus exact pop G bm env (base ++ [b]) a q (by simp; omega)); (focus exact AS); (focus rfl); (focus exact A8))
  | exact True.intro | refine AJ ?_ | refine two ?_ ?_ | refine AG fun c_ => ?_
  | (refine imp fun hc => ?_) <;> try exact cx1 hc
  | refine all fun v_ => ?_)
 obtain ⟨w1, rfl⟩ : ∃ x, x = v_ := ⟨_, rfl⟩
 repeat' (first
  | ((with_reducible apply Au); (focus rfl); (focus exact CC); (focus exact pop G bm env base b w1 (by omega)); (focus exact AS); (focus rfl); (focus exact A8))
  | exact True.intro | refine AJ ?_ | refine two ?_ ?_ | refine AG fun c_ => ?_
  | (refine imp fun hc => ?_) <;> try exact cx1 hc
  | refine all fun v_ => ?_)
 rename Sl => w2
 repeat' (first
  | ((with_reducible apply (Cz (Value.int .i64) (fun v : Value => v))); (focus rfl))
  | ((with_reducible apply (Ew (AQ .i64) (vv := fun v : Value => v))); (focus rfl); (focus rfl); (focus rfl); (focus exact fun _ _ _ h => h); (focus rfl); (focus rfl); (focus exact B6); (focus rfl))
  | ((with_reducible apply jp); (focus ((with_reducible apply (DM (AQ .i64) (vv := fun v : Value => v))); (focus rfl); (focus rfl); (focus rfl); (focus rfl); (focus exact Ai); (focus rfl))); (focus rfl))
  | ((with_reducible apply Cq); (focus rfl); (focus rfl); (focus exact cX); (focus exact clo1 G _ _ a b ha hb'); (focus exact AS); (focus rfl); (focus exact A8))
  | exact True.intro | refine AJ ?_ | refine two ?_ ?_ | refine AG fun c_ => ?_
  | (refine imp fun hc => ?_) <;> try exact cx1 hc
  | refine all fun v_ => ?_)
 all_goals first
 | (refine AO (VS.take (hc := [.cells bm 208 [.val w2.v, .d (AP env)], AF w2.v 3 1 Ag base]) (by exact AB) (Env.le_refl _)) ?_
    exact ⟨w2, .inr ⟨(by unfold Al; omega), rfl, rfl⟩⟩)
 | (refine AO (VS.take (hc := [.cells bm 208 [.val v_.v, .d (AP env)], AF v_.v 3 1 Ag (base ++ [a + b])]) (by exact AB) (Env.le_refl _)) ?_
    exact ⟨v_, .inl ⟨(by unfold Al; omega), rfl, rfl⟩⟩)
theorem de (G : List (Nat × List D)) (bm : Nat) (env base : List Int) (v a b : Int) (q : Sl) (hb : base.length ≤ 900) (ha : Al a) (hb' : Al b) (hn : -2000000000000 ≤ a - b ∧ a - b ≤ 2000000000000) : AC Tryz.prog G 138 [.val (.pointer (some ⟨bm, 0, none⟩)), .agg [.int 4, .int v]] [.cells bm 208 [.val q.v, .d (AP env)], AF q.v 3 1 Ag (base ++ [b] ++ [a])] (DoQ bm env base (a - b)) := by
 refine AK (ts := []) Tryz.f138.ntmps Tryz.func138 rfl rfl rfl (by simp [Tryz.ntmps138]) fun W I => ?_
 repeat' (first
  | ((with_reducible apply Au); (focus rfl); (focus exact CC); (focus exact pop G bm env (base ++ [b]) a q (by simp; omega)); (focus exact AS); (focus rfl); (focus exact A8))
  | exact True.intro | refine AJ ?_ | refine two ?_ ?_ | refine AG fun c_ => ?_
  | (refine imp fun hc => ?_) <;> try exact cx1 hc
  | refine all fun v_ => ?_)
 obtain ⟨w1, rfl⟩ : ∃ x, x = v_ := ⟨_, rfl⟩
 repeat' (first
  | ((with_reducible apply Au); (focus rfl); (focus exact CC); (focus exact pop G bm env base b w1 (by omega)); (focus exact AS); (focus rfl); (focus exact A8))
  | exact True.intro | refine AJ ?_ | refine two ?_ ?_ | refine AG fun c_ => ?_
  | (refine imp fun hc => ?_) <;> try exact cx1 hc
  | refine all fun v_ => ?_)
 rename Sl => w2
 repeat' (first
  | ((with_reducible apply (Cz (Value.int .i64) (fun v : Value => v))); (focus rfl))
  | ((with_reducible apply (Ew (AQ .i64) (vv := fun v : Value => v))); (focus rfl); (focus rfl); (focus rfl); (focus exact fun _ _ _ h => h); (focus rfl); (focus rfl); (focus exact B6); (focus rfl))
  | ((with_reducible apply jp); (focus ((with_reducible apply (DM (AQ .i64) (vv := fun v : Value => v))); (focus rfl); (focus rfl); (focus rfl); (focus rfl); (focus exact Ai); (focus rfl))); (focus rfl))
  | ((with_reducible apply Cq); (focus rfl); (focus rfl); (focus exact cP); (focus exact clo2 G _ _ a b ha hb'); (focus exact AS); (focus rfl); (focus exact A8))
  | exact True.intro | refine AJ ?_ | refine two ?_ ?_ | refine AG fun c_ => ?_
  | (refine imp fun hc => ?_) <;> try exact cx1 hc
  | refine all fun v_ => ?_)
 all_goals first
 | (refine AO (VS.take (hc := [.cells bm 208 [.val w2.v, .d (AP env)], AF w2.v 3 1 Ag base]) (by exact AB) (Env.le_refl _)) ?_
    exact ⟨w2, .inr ⟨(by unfold Al; omega), rfl, rfl⟩⟩)
 | (refine AO (VS.take (hc := [.cells bm 208 [.val v_.v, .d (AP env)], AF v_.v 3 1 Ag (base ++ [a - b])]) (by exact AB) (Env.le_refl _)) ?_
    exact ⟨v_, .inl ⟨(by unfold Al; omega), rfl, rfl⟩⟩)
theorem eJ (G : List (Nat × List D)) (bm : Nat) (env base : List Int) (v a b : Int) (q : Sl) (hb : base.length ≤ 900) (ha : Al a) (hb' : Al b) (hn : -2000000000000 ≤ a * b ∧ a * b ≤ 2000000000000) : AC Tryz.prog G 138 [.val (.pointer (some ⟨bm, 0, none⟩)), .agg [.int 5, .int v]] [.cells bm 208 [.val q.v, .d (AP env)], AF q.v 3 1 Ag (base ++ [b] ++ [a])] (DoQ bm env base (a * b)) := by
 refine AK (ts := []) Tryz.f138.ntmps Tryz.func138 rfl rfl rfl (by simp [Tryz.ntmps138]) fun W I => ?_
 repeat' (first
  | ((with_reducible apply Au); (focus rfl); (focus exact CC); (focus exact pop G bm env (base ++ [b]) a q (by simp; omega)); (focus exact AS); (focus rfl); (focus exact A8))
  | exact True.intro | refine AJ ?_ | refine two ?_ ?_ | refine AG fun c_ => ?_
  | (refine imp fun hc => ?_) <;> try exact cx1 hc
  | refine all fun v_ => ?_)
 obtain ⟨w1, rfl⟩ : ∃ x, x = v_ := ⟨_, rfl⟩
 repeat' (first
  | ((with_reducible apply Au); (focus rfl); (focus exact CC); (focus exact pop G bm env base b w1 (by omega)); (focus exact AS); (focus rfl); (focus exact A8))
  | exact True.intro | refine AJ ?_ | refine two ?_ ?_ | refine AG fun c_ => ?_
  | (refine imp fun hc => ?_) <;> try exact cx1 hc
  | refine all fun v_ => ?_)
 rename Sl => w2
 repeat' (first
  | ((with_reducible apply (Cz (Value.int .i64) (fun v : Value => v))); (focus rfl))
  | ((with_reducible apply (Ew (AQ .i64) (vv := fun v : Value => v))); (focus rfl); (focus rfl); (focus rfl); (focus exact fun _ _ _ h => h); (focus rfl); (focus rfl); (focus exact B6); (focus rfl))
  | ((with_reducible apply jp); (focus ((with_reducible apply (DM (AQ .i64) (vv := fun v : Value => v))); (focus rfl); (focus rfl); (focus rfl); (focus rfl); (focus exact Ai); (focus rfl))); (focus rfl))
  | ((with_reducible apply Cq); (focus rfl); (focus rfl); (focus exact cE); (focus exact clo3 G _ _ a b ha hb'); (focus exact AS); (focus rfl); (focus exact A8))
  | exact True.intro | refine AJ ?_ | refine two ?_ ?_ | refine AG fun c_ => ?_
  | (refine imp fun hc => ?_) <;> try exact cx1 hc
  | refine all fun v_ => ?_)
 all_goals first
 | (refine AO (VS.take (hc := [.cells bm 208 [.val w2.v, .d (AP env)], AF w2.v 3 1 Ag base]) (by exact AB) (Env.le_refl _)) ?_
    exact ⟨w2, .inr ⟨(by unfold Al; omega), rfl, rfl⟩⟩)
 | (refine AO (VS.take (hc := [.cells bm 208 [.val v_.v, .d (AP env)], AF v_.v 3 1 Ag (base ++ [a * b])]) (by exact AB) (Env.le_refl _)) ?_
    exact ⟨v_, .inl ⟨(by unfold Al; omega), rfl, rfl⟩⟩)
theorem gH (G : List (Nat × List D)) (bm : Nat) (env base : List Int) (v a b : Int) (q : Sl) (hb : base.length ≤ 900) (ha : Al a) (hb' : Al b) (hn : -2000000000000 ≤ (if decide (a = b) = true then 1 else 0) ∧ (if decide (a = b) = true then 1 else 0) ≤ 2000000000000) : AC Tryz.prog G 138 [.val (.pointer (some ⟨bm, 0, none⟩)), .agg [.int 6, .int v]] [.cells bm 208 [.val q.v, .d (AP env)], AF q.v 3 1 Ag (base ++ [b] ++ [a])] (DoQ bm env base ((if decide (a = b) = true then 1 else 0))) := by
 refine AK (ts := []) Tryz.f138.ntmps Tryz.func138 rfl rfl rfl (by simp [Tryz.ntmps138]) fun W I => ?_
 repeat' (first
  | ((with_reducible apply Au); (focus rfl); (focus exact CC); (focus exact pop G bm env (base ++ [b]) a q (by simp; omega)); (focus exact AS); (focus rfl); (focus exact A8))
  | exact True.intro | refine AJ ?_ | refine two ?_ ?_ | refine AG fun c_ => ?_
  | (refine imp fun hc => ?_) <;> try exact cx1 hc
  | refine all fun v_ => ?_)
 obtain ⟨w1, rfl⟩ : ∃ x, x = v_ := ⟨_, rfl⟩
 repeat' (first
  | ((with_reducible apply Au); (focus rfl); (focus exact CC); (focus exact pop G bm env base b w1 (by omega)); (focus exact AS); (focus rfl); (focus exact A8))
  | exact True.intro | refine AJ ?_ | refine two ?_ ?_ | refine AG fun c_ => ?_
  | (refine imp fun hc => ?_) <;> try exact cx1 hc
  | refine all fun v_ => ?_)
 rename Sl => w2
 repeat' (first
  | ((with_reducible apply (Cz (Value.int .i64) (fun v : Value => v))); (focus rfl))
  | ((with_reducible apply (Ew (AQ .i64) (vv := fun v : Value => v))); (focus rfl); (focus rfl); (focus rfl); (focus exact fun _ _ _ h => h); (focus rfl); (focus rfl); (focus exact B6); (focus rfl))
  | ((with_reducible apply jp); (focus ((with_reducible apply (DM (AQ .i64) (vv := fun v : Value => v))); (focus rfl); (focus rfl); (focus rfl); (focus rfl); (focus exact Ai); (focus rfl))); (focus rfl))
  | ((with_reducible apply Cq); (focus rfl); (focus rfl); (focus exact bj); (focus exact clo4 G _ _ a b ha hb'); (focus exact AS); (focus rfl); (focus exact A8))
  | exact True.intro | refine AJ ?_ | refine two ?_ ?_ | refine AG fun c_ => ?_
  | (refine imp fun hc => ?_) <;> try exact cx1 hc
  | refine all fun v_ => ?_)
 all_goals first
 | (refine AO (VS.take (hc := [.cells bm 208 [.val w2.v, .d (AP env)], AF w2.v 3 1 Ag base]) (by exact AB) (Env.le_refl _)) ?_
    exact ⟨w2, .inr ⟨(by unfold Al; omega), rfl, rfl⟩⟩)
 | (refine AO (VS.take (hc := [.cells bm 208 [.val v_.v, .d (AP env)], AF v_.v 3 1 Ag (base ++ [(if decide (a = b) = true then 1 else 0)])]) (by exact AB) (Env.le_refl _)) ?_
    exact ⟨v_, .inl ⟨(by unfold Al; omega), rfl, rfl⟩⟩)
theorem iG (G : List (Nat × List D)) (bm : Nat) (env base : List Int) (v a b : Int) (q : Sl) (hb : base.length ≤ 900) (ha : Al a) (hb' : Al b) (hn : -2000000000000 ≤ (if decide (a < b) = true then 1 else 0) ∧ (if decide (a < b) = true then 1 else 0) ≤ 2000000000000) : AC Tryz.prog G 138 [.val (.pointer (some ⟨bm, 0, none⟩)), .agg [.int 7, .int v]] [.cells bm 208 [.val q.v, .d (AP env)], AF q.v 3 1 Ag (base ++ [b] ++ [a])] (DoQ bm env base ((if decide (a < b) = true then 1 else 0))) := by
 refine AK (ts := []) Tryz.f138.ntmps Tryz.func138 rfl rfl rfl (by simp [Tryz.ntmps138]) fun W I => ?_
 repeat' (first
  | ((with_reducible apply Au); (focus rfl); (focus exact CC); (focus exact pop G bm env (base ++ [b]) a q (by simp; omega)); (focus exact AS); (focus rfl); (focus exact A8))
  | exact True.intro | refine AJ ?_ | refine two ?_ ?_ | refine AG fun c_ => ?_
  | (refine imp fun hc => ?_) <;> try exact cx1 hc
  | refine all fun v_ => ?_)
 obtain ⟨w1, rfl⟩ : ∃ x, x = v_ := ⟨_, rfl⟩
 repeat' (first
  | ((with_reducible apply Au); (focus rfl); (focus exact CC); (focus exact pop G bm env base b w1 (by omega)); (focus exact AS); (focus rfl); (focus exact A8))
  | exact True.intro | refine AJ ?_ | refine two ?_ ?_ | refine AG fun c_ => ?_
  | (refine imp fun hc => ?_) <;> try exact cx1 hc
  | refine all fun v_ => ?_)
 rename Sl => w2
 repeat' (first
  | ((with_reducible apply (Cz (Value.int .i64) (fun v : Value => v))); (focus rfl))
  | ((with_reducible apply (Ew (AQ .i64) (vv := fun v : Value => v))); (focus rfl); (focus rfl); (focus rfl); (focus exact fun _ _ _ h => h); (focus rfl); (focus rfl); (focus exact B6); (focus rfl))
  | ((with_reducible apply jp); (focus ((with_reducible apply (DM (AQ .i64) (vv := fun v : Value => v))); (focus rfl); (focus rfl); (focus rfl); (focus rfl); (focus exact Ai); (focus rfl))); (focus rfl))
  | ((with_reducible apply Cq); (focus rfl); (focus rfl); (focus exact bM); (focus exact clo5 G _ _ a b ha hb'); (focus exact AS); (focus rfl); (focus exact A8))
  | exact True.intro | refine AJ ?_ | refine two ?_ ?_ | refine AG fun c_ => ?_
  | (refine imp fun hc => ?_) <;> try exact cx1 hc
  | refine all fun v_ => ?_)
 all_goals first
 | (refine AO (VS.take (hc := [.cells bm 208 [.val w2.v, .d (AP env)], AF w2.v 3 1 Ag base]) (by exact AB) (Env.le_refl _)) ?_
    exact ⟨w2, .inr ⟨(by unfold Al; omega), rfl, rfl⟩⟩)
 | (refine AO (VS.take (hc := [.cells bm 208 [.val v_.v, .d (AP env)], AF v_.v 3 1 Ag (base ++ [(if decide (a < b) = true then 1 else 0)])]) (by exact AB) (Env.le_refl _)) ?_
    exact ⟨v_, .inl ⟨(by unfold Al; omega), rfl, rfl⟩⟩)
theorem fG (G : List (Nat × List D)) (bm : Nat) (env base : List Int) (v a b : Int) (q : Sl) (hb : base.length ≤ 900) (ha : Al a) (hb' : Al b) (hn : -2000000000000 ≤ bits .and .i64 a b ∧ bits .and .i64 a b ≤ 2000000000000) : AC Tryz.prog G 138 [.val (.pointer (some ⟨bm, 0, none⟩)), .agg [.int 8, .int v]] [.cells bm 208 [.val q.v, .d (AP env)], AF q.v 3 1 Ag (base ++ [b] ++ [a])] (DoQ bm env base (bits .and .i64 a b)) := by
 refine AK (ts := []) Tryz.f138.ntmps Tryz.func138 rfl rfl rfl (by simp [Tryz.ntmps138]) fun W I => ?_
 repeat' (first
  | ((with_reducible apply Au); (focus rfl); (focus exact CC); (focus exact pop G bm env (base ++ [b]) a q (by simp; omega)); (focus exact AS); (focus rfl); (focus exact A8))
  | exact True.intro | refine AJ ?_ | refine two ?_ ?_ | refine AG fun c_ => ?_
  | (refine imp fun hc => ?_) <;> try exact cx1 hc
  | refine all fun v_ => ?_)
 obtain ⟨w1, rfl⟩ : ∃ x, x = v_ := ⟨_, rfl⟩
 repeat' (first
  | ((with_reducible apply Au); (focus rfl); (focus exact CC); (focus exact pop G bm env base b w1 (by omega)); (focus exact AS); (focus rfl); (focus exact A8))
  | exact True.intro | refine AJ ?_ | refine two ?_ ?_ | refine AG fun c_ => ?_
  | (refine imp fun hc => ?_) <;> try exact cx1 hc
  | refine all fun v_ => ?_)
 rename Sl => w2
 repeat' (first
  | ((with_reducible apply (Cz (Value.int .i64) (fun v : Value => v))); (focus rfl))
  | ((with_reducible apply (Ew (AQ .i64) (vv := fun v : Value => v))); (focus rfl); (focus rfl); (focus rfl); (focus exact fun _ _ _ h => h); (focus rfl); (focus rfl); (focus exact B6); (focus rfl))
  | ((with_reducible apply jp); (focus ((with_reducible apply (DM (AQ .i64) (vv := fun v : Value => v))); (focus rfl); (focus rfl); (focus rfl); (focus rfl); (focus exact Ai); (focus rfl))); (focus rfl))
  | ((with_reducible apply Cq); (focus rfl); (focus rfl); (focus exact cQ); (focus exact clo6 G _ _ a b ha hb'); (focus exact AS); (focus rfl); (focus exact A8))
  | exact True.intro | refine AJ ?_ | refine two ?_ ?_ | refine AG fun c_ => ?_
  | (refine imp fun hc => ?_) <;> try exact cx1 hc
  | refine all fun v_ => ?_)
 all_goals first
 | (refine AO (VS.take (hc := [.cells bm 208 [.val w2.v, .d (AP env)], AF w2.v 3 1 Ag base]) (by exact AB) (Env.le_refl _)) ?_
    exact ⟨w2, .inr ⟨(by unfold Al; omega), rfl, rfl⟩⟩)
 | (refine AO (VS.take (hc := [.cells bm 208 [.val v_.v, .d (AP env)], AF v_.v 3 1 Ag (base ++ [bits .and .i64 a b])]) (by exact AB) (Env.le_refl _)) ?_
    exact ⟨v_, .inl ⟨(by unfold Al; omega), rfl, rfl⟩⟩)
theorem gV (G : List (Nat × List D)) (bm : Nat) (env base : List Int) (v a b : Int) (q : Sl) (hb : base.length ≤ 900) (ha : Al a) (hb' : Al b) (hn : -2000000000000 ≤ bits .or .i64 a b ∧ bits .or .i64 a b ≤ 2000000000000) : AC Tryz.prog G 138 [.val (.pointer (some ⟨bm, 0, none⟩)), .agg [.int 9, .int v]] [.cells bm 208 [.val q.v, .d (AP env)], AF q.v 3 1 Ag (base ++ [b] ++ [a])] (DoQ bm env base (bits .or .i64 a b)) := by
 refine AK (ts := []) Tryz.f138.ntmps Tryz.func138 rfl rfl rfl (by simp [Tryz.ntmps138]) fun W I => ?_
 repeat' (first
  | ((with_reducible apply Au); (focus rfl); (focus exact CC); (focus exact pop G bm env (base ++ [b]) a q (by simp; omega)); (focus exact AS); (focus rfl); (focus exact A8))
  | exact True.intro | refine AJ ?_ | refine two ?_ ?_ | refine AG fun c_ => ?_
  | (refine imp fun hc => ?_) <;> try exact cx1 hc
  | refine all fun v_ => ?_)
 obtain ⟨w1, rfl⟩ : ∃ x, x = v_ := ⟨_, rfl⟩
 repeat' (first
  | ((with_reducible apply Au); (focus rfl); (focus exact CC); (focus exact pop G bm env base b w1 (by omega)); (focus exact AS); (focus rfl); (focus exact A8))
  | exact True.intro | refine AJ ?_ | refine two ?_ ?_ | refine AG fun c_ => ?_
  | (refine imp fun hc => ?_) <;> try exact cx1 hc
  | refine all fun v_ => ?_)
 rename Sl => w2
 repeat' (first
  | ((with_reducible apply (Cz (Value.int .i64) (fun v : Value => v))); (focus rfl))
  | ((with_reducible apply (Ew (AQ .i64) (vv := fun v : Value => v))); (focus rfl); (focus rfl); (focus rfl); (focus exact fun _ _ _ h => h); (focus rfl); (focus rfl); (focus exact B6); (focus rfl))
  | ((with_reducible apply jp); (focus ((with_reducible apply (DM (AQ .i64) (vv := fun v : Value => v))); (focus rfl); (focus rfl); (focus rfl); (focus rfl); (focus exact Ai); (focus rfl))); (focus rfl))
  | ((with_reducible apply Cq); (focus rfl); (focus rfl); (focus exact aK); (focus exact clo7 G _ _ a b ha hb'); (focus exact AS); (focus rfl); (focus exact A8))
  | exact True.intro | refine AJ ?_ | refine two ?_ ?_ | refine AG fun c_ => ?_
  | (refine imp fun hc => ?_) <;> try exact cx1 hc
  | refine all fun v_ => ?_)
 all_goals first
 | (refine AO (VS.take (hc := [.cells bm 208 [.val w2.v, .d (AP env)], AF w2.v 3 1 Ag base]) (by exact AB) (Env.le_refl _)) ?_
    exact ⟨w2, .inr ⟨(by unfold Al; omega), rfl, rfl⟩⟩)
 | (refine AO (VS.take (hc := [.cells bm 208 [.val v_.v, .d (AP env)], AF v_.v 3 1 Ag (base ++ [bits .or .i64 a b])]) (by exact AB) (Env.le_refl _)) ?_
    exact ⟨v_, .inl ⟨(by unfold Al; omega), rfl, rfl⟩⟩)
end Go.Proofs.YtajnpfgelpkijaaGreatDoor
