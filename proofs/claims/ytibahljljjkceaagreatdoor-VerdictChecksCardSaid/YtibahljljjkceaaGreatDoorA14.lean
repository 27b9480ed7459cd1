/- A bundle of this claim's own texts: Y2. -/
import Derived.Test.YtibahljljjkceaaGreatDoorA13
set_option linter.unusedVariables false
set_option linter.unusedSimpArgs false
set_option maxRecDepth 100000
set_option maxHeartbeats 4000000
namespace Go.Proofs.YtibahljljjkceaaGreatDoor
open Go Go.Av Go.Sp
theorem XB : Cal Tryz.prog 152 := Cal.of Tryz.func152 (by kernel_rfl) (by kernel_rfl)
def aG : List PanicEntry := [{ v := .iface 36 (.int .i64 8), recovered := false }]
def DoQ (bm : Nat) (env base : List Int) (n : Int) (r : AE) (h : H) : Prop :=
 ∃ v : Sl, (AY n ∧ r = .ret (.tup []) ∧ h = [.cells bm 209 [.val v.v, .d (AK env)], AM v.v 3 1 AW (base ++ [n])]) ∨ (¬ AY n ∧ r = .pan aG ∧ h = [.cells bm 209 [.val v.v, .d (AK env)], AM v.v 3 1 AW base])
theorem do0 (G : List (Nat × List D)) (bm : Nat) (env base : List Int) (k v n : Int) (q : Sl) (hb : base.length ≤ 1000) (h : (k = 1 ∧ n = v ∧ AY v) ∨ (k = 11 ∧ n = 1) ∨ (k = 12 ∧ n = 0)) : AC Tryz.prog G 152 [.val (.pointer (some ⟨bm, 0, none⟩)), .agg [.int k, .int v]] [.cells bm 209 [.val q.v, .d (AK env)], AM q.v 3 1 AW base] (DoQ bm env base n) := by
 unfold AY at h
 refine AN (ts := []) Tryz.f152.ntmps Tryz.func152 rfl rfl rfl (by simp [Tryz.ntmps152]) fun W I => ?_
 rcases h with ⟨rfl, rfl, h⟩ | ⟨rfl, rfl⟩ | ⟨rfl, rfl⟩
 all_goals
  repeat' (first
   | exact True.intro | refine AD ?_ | refine two ?_ ?_ | refine AB fun c_ => ?_
   | (refine imp fun hc => ?_) <;> try exact cx1 hc
   | refine all fun v_ => ?_)
  all_goals first
   | (exfalso; unfold AY at *; omega)
   | (refine AH (VS.take (hc := [.cells bm 209 [.val v_.v, .d (AK env)], AM v_.v 3 1 AW (base ++ [_])]) (by exact AI) (Env.le_refl _)) ?_
      exact ⟨v_, .inl ⟨by unfold AY; omega, rfl, rfl⟩⟩)
   | (refine AH (VS.take (hc := [.cells bm 209 [.val q.v, .d (AK env)], AM q.v 3 1 AW base]) (by exact AI) (Env.le_refl _)) ?_
      exact ⟨_, .inr ⟨by unfold AY; omega, rfl, rfl⟩⟩)
theorem dov (G : List (Nat × List D)) (bm : Nat) (env base : List Int) (v : Int) (q : Sl) (hb : base.length ≤ 1000) (h0 : 0 ≤ v) (h1 : v.toNat < env.length) : AC Tryz.prog G 152 [.val (.pointer (some ⟨bm, 0, none⟩)), .agg [.int 2, .int v]] [.cells bm 209 [.val q.v, .d (AK env)], AM q.v 3 1 AW base] (DoQ bm env base env[v.toNat]) := by
 refine AN (ts := []) Tryz.f152.ntmps Tryz.func152 rfl rfl rfl (by simp [Tryz.ntmps152]) fun W I => ?_
 repeat' (first
  | exact True.intro | refine AD ?_ | refine two ?_ ?_ | refine AB fun c_ => ?_
  | (refine imp fun hc => ?_) <;> try exact cx1 hc
  | refine all fun v_ => ?_)
 all_goals first
  | (exfalso; unfold AY at *; omega)
  | (refine AH (VS.take (hc := [.cells bm 209 [.val v_.v, .d (AK env)], AM v_.v 3 1 AW (base ++ [_])]) (by exact AI) (Env.le_refl _)) ?_
     exact ⟨v_, .inl ⟨by unfold AY; omega, rfl, rfl⟩⟩)
  | (refine AH (VS.take (hc := [.cells bm 209 [.val q.v, .d (AK env)], AM q.v 3 1 AW base]) (by exact AI) (Env.le_refl _)) ?_
     exact ⟨_, .inr ⟨by unfold AY; omega, rfl, rfl⟩⟩)
theorem don (G : List (Nat × List D)) (bm : Nat) (env base : List Int) (v a : Int) (q : Sl) (hb : base.length ≤ 1000) (ha : a = 0 ∨ a = 1) : AC Tryz.prog G 152 [.val (.pointer (some ⟨bm, 0, none⟩)), .agg [.int 10, .int v]] [.cells bm 209 [.val q.v, .d (AK env)], AM q.v 3 1 AW (base ++ [a])] (DoQ bm env base (1 - a)) := by
 refine AN (ts := []) Tryz.f152.ntmps Tryz.func152 rfl rfl rfl (by simp [Tryz.ntmps152]) fun W I => ?_
 repeat' (first
  | refine cag CO (pop G bm env base a q hb) ?_
  | exact True.intro | refine AD ?_ | refine two ?_ ?_ | refine AB fun c_ => ?_
  | (refine imp fun hc => ?_) <;> try exact cx1 hc
  | refine all fun v_ => ?_)
 refine AH (VS.take (hc := [.cells bm 209 [.val v_.v, .d (AK env)], AM v_.v 3 1 AW (base ++ [1 - a])]) (by exact AI) (Env.le_refl _)) ?_
 exact ⟨v_, .inl ⟨by unfold AY; omega, rfl, rfl⟩⟩
theorem ZW (G : List (Nat × List D)) (bm : Nat) (env base : List Int) (v a b : Int) (q : Sl) (hb : base.length ≤ 900) (ha : AY a) (hb' : AY b) (hn : -2000000000000 ≤ a + b ∧ a + b ≤ 2000000000000) : AC Tryz.prog G 152 [.val (.pointer (some ⟨bm, 0, none⟩)), .agg [.int 3, .int v]] [.cells bm 209 [.val q.v, .d (AK env)], AM q.v 3 1 AW (base ++ [b] ++ [a])] (DoQ bm env base (a + b)) := by
 refine AN (ts := []) Tryz.f152.ntmps Tryz.func152 rfl rfl rfl (by simp [Tryz.ntmps152]) fun W I => ?_
 repeat' (first
  | ((with_reducible apply DW); (focus rfl); (focus exact CO); (focus exact pop G bm env (base ++ [b]) a q (by simp; omega)); (focus exact Ap); (focus rfl); (focus exact C5))
  | exact True.intro | refine AD ?_ | refine two ?_ ?_ | refine AB fun c_ => ?_
  | (refine imp fun hc => ?_) <;> try exact cx1 hc
  | refine all fun v_ => ?_)
 obtain ⟨w1, rfl⟩ : ∃ x, x = v_ := ⟨_, rfl⟩
 repeat' (first
  | ((with_reducible apply DW); (focus rfl); (focus exact CO); (focus exact pop G bm env base b w1 (by omega)); (focus exact Ap); (focus rfl); (focus exact C5))
  | exact True.intro | refine AD ?_ | refine two ?_ ?_ | refine AB fun c_ => ?_
  | (refine imp fun hc => ?_) <;> try exact cx1 hc
  | refine all fun v_ => ?_)
 rename Sl => w2
 repeat' (first
  | ((with_reducible apply (DN (Value.int .i64) (fun v : Value => v))); (focus rfl))
  | ((with_reducible apply (FM (AX .i64) (vv := fun v : Value => v))); (focus rfl); (focus rfl); (focus rfl); (focus exact fun _ _ _ h => h); (focus rfl); (focus rfl); (focus exact CV); (focus rfl))
  | ((with_reducible apply jp); (focus ((with_reducible apply (Dj (AX .i64) (vv := fun v : Value => v))); (focus rfl); (focus rfl); (focus rfl); (focus rfl); (focus exact Az); (focus rfl))); (focus rfl))
  | ((with_reducible apply DD); (focus rfl); (focus rfl); (focus exact YC); (focus exact clo1 G _ _ a b ha hb'); (focus exact Ap); (focus rfl); (focus exact C5))
  | exact True.intro | refine AD ?_ | refine two ?_ ?_ | refine AB fun c_ => ?_
  | (refine imp fun hc => ?_) <;> try exact cx1 hc
  | refine all fun v_ => ?_)
 all_goals first
 | (refine AH (VS.take (hc := [.cells bm 209 [.val w2.v, .d (AK env)], AM w2.v 3 1 AW base]) (by exact AI) (Env.le_refl _)) ?_
    exact ⟨w2, .inr ⟨(by unfold AY; omega), rfl, rfl⟩⟩)
 | (refine AH (VS.take (hc := [.cells bm 209 [.val v_.v, .d (AK env)], AM v_.v 3 1 AW (base ++ [a + b])]) (by exact AI) (Env.le_refl _)) ?_
    exact ⟨v_, .inl ⟨(by unfold AY; omega), rfl, rfl⟩⟩)
theorem ZJ (G : List (Nat × List D)) (bm : Nat) (env base : List Int) (v a b : Int) (q : Sl) (hb : base.length ≤ 900) (ha : AY a) (hb' : AY b) (hn : -2000000000000 ≤ a - b ∧ a - b ≤ 2000000000000) : AC Tryz.prog G 152 [.val (.pointer (some ⟨bm, 0, none⟩)), .agg [.int 4, .int v]] [.cells bm 209 [.val q.v, .d (AK env)], AM q.v 3 1 AW (base ++ [b] ++ [a])] (DoQ bm env base (a - b)) := by
 refine AN (ts := []) Tryz.f152.ntmps Tryz.func152 rfl rfl rfl (by simp [Tryz.ntmps152]) fun W I => ?_
 repeat' (first
  | ((with_reducible apply DW); (focus rfl); (focus exact CO); (focus exact pop G bm env (base ++ [b]) a q (by simp; omega)); (focus exact Ap); (focus rfl); (focus exact C5))
  | exact True.intro | refine AD ?_ | refine two ?_ ?_ | refine AB fun c_ => ?_
  | (refine imp fun hc => ?_) <;> try exact cx1 hc
  | refine all fun v_ => ?_)
 obtain ⟨w1, rfl⟩ : ∃ x, x = v_ := ⟨_, rfl⟩
 repeat' (first
  | ((with_reducible apply DW); (focus rfl); (focus exact CO); (focus exact pop G bm env base b w1 (by omega)); (focus exact Ap); (focus rfl); (focus exact C5))
  | exact True.intro | refine AD ?_ | refine two ?_ ?_ | refine AB fun c_ => ?_
  | (refine imp fun hc => ?_) <;> try exact cx1 hc
  | refine all fun v_ => ?_)
 rename Sl => w2
 repeat' (first
  | ((with_reducible apply (DN (Value.int .i64) (fun v : Value => v))); (focus rfl))
  | ((with_reducible apply (FM (AX .i64) (vv := fun v : Value => v))); (focus rfl); (focus rfl); (focus rfl); (focus exact fun _ _ _ h => h); (focus rfl); (focus rfl); (focus exact CV); (focus rfl))
  | ((with_reducible apply jp); (focus ((with_reducible apply (Dj (AX .i64) (vv := fun v : Value => v))); (focus rfl); (focus rfl); (focus rfl); (focus rfl); (focus exact Az); (focus rfl))); (focus rfl))
  | ((with_reducible apply DD); (focus rfl); (focus rfl); (focus exact XE); (focus exact clo2 G _ _ a b ha hb'); (focus exact Ap); (focus rfl); (focus exact C5))
  | exact True.intro | refine AD ?_ | refine two ?_ ?_ | refine AB fun c_ => ?_
  | (refine imp fun hc => ?_) <;> try exact cx1 hc
  | refine all fun v_ => ?_)
 all_goals first
 | (refine AH (VS.take (hc := [.cells bm 209 [.val w2.v, .d (AK env)], AM w2.v 3 1 AW base]) (by exact AI) (Env.le_refl _)) ?_
    exact ⟨w2, .inr ⟨(by unfold AY; omega), rfl, rfl⟩⟩)
 | (refine AH (VS.take (hc := [.cells bm 209 [.val v_.v, .d (AK env)], AM v_.v 3 1 AW (base ++ [a - b])]) (by exact AI) (Env.le_refl _)) ?_
    exact ⟨v_, .inl ⟨(by unfold AY; omega), rfl, rfl⟩⟩)
theorem Yy (G : List (Nat × List D)) (bm : Nat) (env base : List Int) (v a b : Int) (q : Sl) (hb : base.length ≤ 900) (ha : AY a) (hb' : AY b) (hn : -2000000000000 ≤ a * b ∧ a * b ≤ 2000000000000) : AC Tryz.prog G 152 [.val (.pointer (some ⟨bm, 0, none⟩)), .agg [.int 5, .int v]] [.cells bm 209 [.val q.v, .d (AK env)], AM q.v 3 1 AW (base ++ [b] ++ [a])] (DoQ bm env base (a * b)) := by
 refine AN (ts := []) Tryz.f152.ntmps Tryz.func152 rfl rfl rfl (by simp [Tryz.ntmps152]) fun W I => ?_
 repeat' (first
  | ((with_reducible apply DW); (focus rfl); (focus exact CO); (focus exact pop G bm env (base ++ [b]) a q (by simp; omega)); (focus exact Ap); (focus rfl); (focus exact C5))
  | exact True.intro | refine AD ?_ | refine two ?_ ?_ | refine AB fun c_ => ?_
  | (refine imp fun hc => ?_) <;> try exact cx1 hc
  | refine all fun v_ => ?_)
 obtain ⟨w1, rfl⟩ : ∃ x, x = v_ := ⟨_, rfl⟩
 repeat' (first
  | ((with_reducible apply DW); (focus rfl); (focus exact CO); (focus exact pop G bm env base b w1 (by omega)); (focus exact Ap); (focus rfl); (focus exact C5))
  | exact True.intro | refine AD ?_ | refine two ?_ ?_ | refine AB fun c_ => ?_
  | (refine imp fun hc => ?_) <;> try exact cx1 hc
  | refine all fun v_ => ?_)
 rename Sl => w2
 repeat' (first
  | ((with_reducible apply (DN (Value.int .i64) (fun v : Value => v))); (focus rfl))
  | ((with_reducible apply (FM (AX .i64) (vv := fun v : Value => v))); (focus rfl); (focus rfl); (focus rfl); (focus exact fun _ _ _ h => h); (focus rfl); (focus rfl); (focus exact CV); (focus rfl))
  | ((with_reducible apply jp); (focus ((with_reducible apply (Dj (AX .i64) (vv := fun v : Value => v))); (focus rfl); (focus rfl); (focus rfl); (focus rfl); (focus exact Az); (focus rfl))); (focus rfl))
  | ((with_reducible apply DD); (focus rfl); (focus rfl); (focus exact X1); (focus exact clo3 G _ _ a b ha hb'); (focus exact Ap); (focus rfl); (focus exact C5))
  | exact True.intro | refine AD ?_ | refine two ?_ ?_ | refine AB fun c_ => ?_
  | (refine imp fun hc => ?_) <;> try exact cx1 hc
  | refine all fun v_ => ?_)
 all_goals first
 | (refine AH (VS.take (hc := [.cells bm 209 [.val w2.v, .d (AK env)], AM w2.v 3 1 AW base]) (by exact AI) (Env.le_refl _)) ?_
    exact ⟨w2, .inr ⟨(by unfold AY; omega), rfl, rfl⟩⟩)
 | (refine AH (VS.take (hc := [.cells bm 209 [.val v_.v, .d (AK env)], AM v_.v 3 1 AW (base ++ [a * b])]) (by exact AI) (Env.le_refl _)) ?_
    exact ⟨v_, .inl ⟨(by unfold AY; omega), rfl, rfl⟩⟩)
theorem aL (G : List (Nat × List D)) (bm : Nat) (env base : List Int) (v a b : Int) (q : Sl) (hb : base.length ≤ 900) (ha : AY a) (hb' : AY b) (hn : -2000000000000 ≤ (if decide (a = b) = true then 1 else 0) ∧ (if decide (a = b) = true then 1 else 0) ≤ 2000000000000) : AC Tryz.prog G 152 [.val (.pointer (some ⟨bm, 0, none⟩)), .agg [.int 6, .int v]] [.cells bm 209 [.val q.v, .d (AK env)], AM q.v 3 1 AW (base ++ [b] ++ [a])] (DoQ bm env base ((if decide (a = b) = true then 1 else 0))) := by
 refine AN (ts := []) Tryz.f152.ntmps Tryz.func152 rfl rfl rfl (by simp [Tryz.ntmps152]) fun W I => ?_
 repeat' (first
  | ((with_reducible apply DW); (focus rfl); (focus exact CO); (focus exact pop G bm env (base ++ [b]) a q (by simp; omega)); (focus exact Ap); (focus rfl); (focus exact C5))
  | exact True.intro | refine AD ?_ | refine two ?_ ?_ | refine AB fun c_ => ?_
  | (refine imp fun hc => ?_) <;> try exact cx1 hc
  | refine all fun v_ => ?_)
 obtain ⟨w1, rfl⟩ : ∃ x, x = v_ := ⟨_, rfl⟩
 repeat' (first
  | ((with_reducible apply DW); (focus rfl); (focus exact CO); (focus exact pop G bm env base b w1 (by omega)); (focus exact Ap); (focus rfl); (focus exact C5))
  | exact True.intro | refine AD ?_ | refine two ?_ ?_ | refine AB fun c_ => ?_
  | (refine imp fun hc => ?_) <;> try exact cx1 hc
  | refine all fun v_ => ?_)
 rename Sl => w2
 repeat' (first
  | ((with_reducible apply (DN (Value.int .i64) (fun v : Value => v))); (focus rfl))
  | ((with_reducible apply (FM (AX .i64) (vv := fun v : Value => v))); (focus rfl); (focus rfl); (focus rfl); (focus exact fun _ _ _ h => h); (focus rfl); (focus rfl); (focus exact CV); (focus rfl))
  | ((with_reducible apply jp); (focus ((with_reducible apply (Dj (AX .i64) (vv := fun v : Value => v))); (focus rfl); (focus rfl); (focus rfl); (focus rfl); (focus exact Az); (focus rfl))); (focus rfl))
  | ((with_reducible apply DD); (focus rfl); (focus rfl); (focus exact Xd); (focus exact clo4 G _ _ a b ha hb'); (focus exact Ap); (focus rfl); (focus exact C5))
  | exact True.intro | refine AD ?_ | refine two ?_ ?_ | refine AB fun c_ => ?_
  | (refine imp fun hc => ?_) <;> try exact cx1 hc
  | refine all fun v_ => ?_)
 all_goals first
 | (refine AH (VS.take (hc := [.cells bm 209 [.val w2.v, .d (AK env)], AM w2.v 3 1 AW base]) (by exact AI) (Env.le_refl _)) ?_
    exact ⟨w2, .inr ⟨(by unfold AY; omega), rfl, rfl⟩⟩)
 | (refine AH (VS.take (hc := [.cells bm 209 [.val v_.v, .d (AK env)], AM v_.v 3 1 AW (base ++ [(if decide (a = b) = true then 1 else 0)])]) (by exact AI) (Env.le_refl _)) ?_
    exact ⟨v_, .inl ⟨(by unfold AY; omega), rfl, rfl⟩⟩)
theorem aV (G : List (Nat × List D)) (bm : Nat) (env base : List Int) (v a b : Int) (q : Sl) (hb : base.length ≤ 900) (ha : AY a) (hb' : AY b) (hn : -2000000000000 ≤ (if decide (a < b) = true then 1 else 0) ∧ (if decide (a < b) = true then 1 else 0) ≤ 2000000000000) : AC Tryz.prog G 152 [.val (.pointer (some ⟨bm, 0, none⟩)), .agg [.int 7, .int v]] [.cells bm 209 [.val q.v, .d (AK env)], AM q.v 3 1 AW (base ++ [b] ++ [a])] (DoQ bm env base ((if decide (a < b) = true then 1 else 0))) := by
 refine AN (ts := []) Tryz.f152.ntmps Tryz.func152 rfl rfl rfl (by simp [Tryz.ntmps152]) fun W I => ?_
 repeat' (first
  | ((with_reducible apply DW); (focus rfl); (focus exact CO); (focus exact pop G bm env (base ++ [b]) a q (by simp; omega)); (focus exact Ap); (focus rfl); (focus exact C5))
  | exact True.intro | refine AD ?_ | refine two ?_ ?_ | refine AB fun c_ => ?_
  | (refine imp fun hc => ?_) <;> try exact cx1 hc
  | refine all fun v_ => ?_)
 obtain ⟨w1, rfl⟩ : ∃ x, x = v_ := ⟨_, rfl⟩
 repeat' (first
  | ((with_reducible apply DW); (focus rfl); (focus exact CO); (focus exact pop G bm env base b w1 (by omega)); (focus exact Ap); (focus rfl); (focus exact C5))
  | exact True.intro | refine AD ?_ | refine two ?_ ?_ | refine AB fun c_ => ?_
  | (refine imp fun hc => ?_) <;> try exact cx1 hc
  | refine all fun v_ => ?_)
 rename Sl => w2
 repeat' (first
  | ((with_reducible apply (DN (Value.int .i64) (fun v : Value => v))); (focus rfl))
  | ((with_reducible apply (FM (AX .i64) (vv := fun v : Value => v))); (focus rfl); (focus rfl); (focus rfl); (focus exact fun _ _ _ h => h); (focus rfl); (focus rfl); (focus exact CV); (focus rfl))
  | ((with_reducible apply jp); (focus ((with_reducible apply (Dj (AX .i64) (vv := fun v : Value => v))); (focus rfl); (focus rfl); (focus rfl); (focus rfl); (focus exact Az); (focus rfl))); (focus rfl))
  | ((with_reducible apply DD); (focus rfl); (focus rfl); (focus exact XI); (focus exact clo5 G _ _ a b ha hb'); (focus exact Ap); (focus rfl); (focus exact C5))
  | exact True.intro | refine AD ?_ | refine two ?_ ?_ | refine AB fun c_ => ?_
  | (refine imp fun hc => ?_) <;> try exact cx1 hc
  | refine all fun v_ => ?_)
 all_goals first
 | (refine AH (VS.take (hc := [.cells bm 209 [.val w2.v, .d (AK env)], AM w2.v 3 1 AW base]) (by exact AI) (Env.le_refl _)) ?_
    exact ⟨w2, .inr ⟨(by unfold AY; omega), rfl, rfl⟩⟩)
 | (refine AH (VS.take (hc := [.cells bm 209 [.val v_.v, .d (AK env)], AM v_.v 3 1 AW (base ++ [(if decide (a < b) = true then 1 else 0)])]) (by exact AI) (Env.le_refl _)) ?_
    exact ⟨v_, .inl ⟨(by unfold AY; omega), rfl, rfl⟩⟩)
theorem Zr (G : List (Nat × List D)) (bm : Nat) (env base : List Int) (v a b : Int) (q : Sl) (hb : base.length ≤ 900) (ha : AY a) (hb' : AY b) (hn : -2000000000000 ≤ bits .and .i64 a b ∧ bits .and .i64 a b ≤ 2000000000000) : AC Tryz.prog G 152 [.val (.pointer (some ⟨bm, 0, none⟩)), .agg [.int 8, .int v]] [.cells bm 209 [.val q.v, .d (AK env)], AM q.v 3 1 AW (base ++ [b] ++ [a])] (DoQ bm env base (bits .and .i64 a b)) := by
 refine AN (ts := []) Tryz.f152.ntmps Tryz.func152 rfl rfl rfl (by simp [Tryz.ntmps152]) fun W I => ?_
 repeat' (first
  | ((with_reducible apply DW); (focus rfl); (focus exact CO); (focus exact pop G bm env (base ++ [b]) a q (by simp; omega)); (focus exact Ap); (focus rfl); (focus exact C5))
  | exact True.intro | refine AD ?_ | refine two ?_ ?_ | refine AB fun c_ => ?_
  | (refine imp fun hc => ?_) <;> try exact cx1 hc
  | refine all fun v_ => ?_)
 obtain ⟨w1, rfl⟩ : ∃ x, x = v_ := ⟨_, rfl⟩
 repeat' (first
  | ((with_reducible apply DW); (focus rfl); (focus exact CO); (focus exact pop G bm env base b w1 (by omega)); (focus exact Ap); (focus rfl); (focus exact C5))
  | exact True.intro | refine AD ?_ | refine two ?_ ?_ | refine AB fun c_ => ?_
  | (refine imp fun hc => ?_) <;> try exact cx1 hc
  | refine all fun v_ => ?_)
 rename Sl => w2
 repeat' (first
  | ((with_reducible apply (DN (Value.int .i64) (fun v : Value => v))); (focus rfl))
  | ((with_reducible apply (FM (AX .i64) (vv := fun v : Value => v))); (focus rfl); (focus rfl); (focus rfl); (focus exact fun _ _ _ h => h); (focus rfl); (focus rfl); (focus exact CV); (focus rfl))
  | ((with_reducible apply jp); (focus ((with_reducible apply (Dj (AX .i64) (vv := fun v : Value => v))); (focus rfl); (focus rfl); (focus rfl); (focus rfl); (focus exact Az); (focus rfl))); (focus rfl))
  | ((with_reducible apply DD); (focus rfl); (focus rfl); (focus exact Xv); (focus exact clo6 G _ _ a b ha hb'); (focus exact Ap); (focus rfl); (focus exact C5))
  | exact True.intro | refine AD ?_ | refine two ?_ ?_ | refine AB fun c_ => ?_
  | (refine imp fun hc => ?_) <;> try exact cx1 hc
  | refine all fun v_ => ?_)
 all_goals first
 | (refine AH (VS.take (hc := [.cells bm 209 [.val w2.v, .d (AK env)], AM w2.v 3 1 AW base]) (by exact AI) (Env.le_refl _)) ?_
    exact ⟨w2, .inr ⟨(by unfold AY; omega), rfl, rfl⟩⟩)
 | (refine AH (VS.take (hc := [.cells bm 209 [.val v_.v, .d (AK env)], AM v_.v 3 1 AW (base ++ [bits .and .i64 a b])]) (by exact AI) (Env.le_refl _)) ?_
    exact ⟨v_, .inl ⟨(by unfold AY; omega), rfl, rfl⟩⟩)
theorem Z1 (G : List (Nat × List D)) (bm : Nat) (env base : List Int) (v a b : Int) (q : Sl) (hb : base.length ≤ 900) (ha : AY a) (hb' : AY b) (hn : -2000000000000 ≤ bits .or .i64 a b ∧ bits .or .i64 a b ≤ 2000000000000) : AC Tryz.prog G 152 [.val (.pointer (some ⟨bm, 0, none⟩)), .agg [.int 9, .int v]] [.cells bm 209 [.val q.v, .d (AK env)], AM q.v 3 1 AW (base ++ [b] ++ [a])] (DoQ bm env base (bits .or .i64 a b)) := by
 refine AN (ts := []) Tryz.f152.ntmps Tryz.func152 rfl rfl rfl (by simp [Tryz.ntmps152]) fun W I => ?_
 repeat' (first
  | ((with_reducible apply DW); (focus rfl); (focus exact CO); (focus exact pop G bm env (base ++ [b]) a q (by simp; omega)); (focus exact Ap); (focus rfl); (focus exact C5))
  | exact True.intro | refine AD ?_ | refine two ?_ ?_ | refine AB fun c_ => ?_
  | (refine imp fun hc => ?_) <;> try exact cx1 hc
  | refine all fun v_ => ?_)
 obtain ⟨w1, rfl⟩ : ∃ x, x = v_ := ⟨_, rfl⟩
 repeat' (first
  | ((with_reducible apply DW); (focus rfl); (focus exact CO); (focus exact pop G bm env base b w1 (by omega)); (focus exact Ap); (focus rfl); (focus exact C5))
  | exact True.intro | refine AD ?_ | refine two ?_ ?_ | refine AB fun c_ => ?_
  | (refine imp fun hc => ?_) <;> try exact cx1 hc
  | refine all fun v_ => ?_)
 rename Sl => w2
 repeat' (first
  | ((with_reducible apply (DN (Value.int .i64) (fun v : Value => v))); (focus rfl))
  | ((with_reducible apply (FM (AX .i64) (vv := fun v : Value => v))); (focus rfl); (focus rfl); (focus rfl); (focus exact fun _ _ _ h => h); (focus rfl); (focus rfl); (focus exact CV); (focus rfl))
  | ((with_reducible apply jp); (focus ((with_reducible apply (Dj (AX .i64) (vv := fun v : Value => v))); (focus rfl); (focus rfl); (focus rfl); (focus rfl); (focus exact Az); (focus rfl))); (focus rfl))
  | ((with_reducible apply DD); (focus rfl); (focus rfl); (focus exact YI); (focus exact clo7 G _ _ a b ha hb'); (focus exact Ap); (focus rfl); (focus exact C5))
  | exact True.intro | refine AD ?_ | refine two ?_ ?_ | refine AB fun c_ => ?_
  | (refine imp fun hc => ?_) <;> try exact cx1 hc
  | refine all fun v_ => ?_)
 all_goals first
 | (refine AH (VS.take (hc := [.cells bm 209 [.val w2.v, .d (AK env)], AM w2.v 3 1 AW base]) (by exact AI) (Env.le_refl _)) ?_
    exact ⟨w2, .inr ⟨(by unfold AY; omega), rfl, rfl⟩⟩)
 | (refine AH (VS.take (hc := [.cells bm 209 [.val v_.v, .d (AK env)], AM v_.v 3 1 AW (base ++ [bits .or .i64 a b])]) (by exact AI) (Env.le_refl _)) ?_
    exact ⟨v_, .inl ⟨(by unfold AY; omega), rfl, rfl⟩⟩)
end Go.Proofs.YtibahljljjkceaaGreatDoor
