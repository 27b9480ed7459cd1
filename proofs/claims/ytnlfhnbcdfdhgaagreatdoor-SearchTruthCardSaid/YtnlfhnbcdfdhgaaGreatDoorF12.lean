/- A bundle of this claim's own texts: G10 Y3 G12 T7 N1 Br Cf. -/
import Derived.ProofKit
import Derived.Carry
import Derived.Lib.LaidTab
import Derived.Deep.Slices
import Derived.Below
import Derived.ChangeSame
import Derived.WideKeyArgs
import Derived.ShutString
import Derived.OpenShut
import Derived.Test.YtnlfhnbcdfdhgaaGreatDoorF1
import Derived.Test.YtnlfhnbcdfdhgaaGreatDoorF3
import Derived.Test.YtnlfhnbcdfdhgaaGreatDoorF4
import Derived.Test.YtnlfhnbcdfdhgaaGreatDoorF5
import Derived.Test.YtnlfhnbcdfdhgaaGreatDoorF8
import Derived.Test.YtnlfhnbcdfdhgaaGreatDoorF9
import Derived.Test.YtnlfhnbcdfdhgaaGreatDoorF10
import Derived.Test.YtnlfhnbcdfdhgaaGreatDoorF11
set_option linter.unusedVariables false
set_option linter.unusedSimpArgs false
set_option maxRecDepth 100000
set_option maxHeartbeats 4000000
namespace Go.Sp
open Go Go.Av

abbrev Pt (a : Int) : Prop := a = 0 ∨ a = 1
def cG (k v : Int) (env S base : List Int) (n : Int) : Prop :=
 (S = base ∧ ((k = 1 ∧ n = v ∧ Ak v) ∨ (k = 11 ∧ n = 1) ∨ (k = 12 ∧ n = 0))) ∨ (S = base ∧ k = 2 ∧ 0 ≤ v ∧ ∃ h : v.toNat < env.length, n = env[v.toNat]) ∨ (k = 10 ∧ ∃ a, S = base ++ [a] ∧ Pt a ∧ n = 1 - a) ∨
 (∃ a b, S = base ++ [b] ++ [a] ∧ Ak a ∧ Ak b ∧ ((k = 3 ∧ n = a + b) ∨ (k = 4 ∧ n = a - b) ∨ (k = 5 ∧ n = a * b) ∨ (k = 6 ∧ n = if decide (a = b) = true then 1 else 0) ∨ (k = 7 ∧ n = if decide (a < b) = true then 1 else 0) ∨ (k = 8 ∧ Pt a ∧ Pt b ∧ n = bits .and .i64 a b) ∨ (k = 9 ∧ Pt a ∧ Pt b ∧ n = bits .or .i64 a b)))
theorem aP {k : Int} (h : 1 ≤ k ∧ k ≤ 12) (hp : (partsOf k).1 = 0) : k = 1 ∨ k = 2 ∨ k = 11 ∨ k = 12 := by
 unfold partsOf at hp
 split at hp
 · omega
 split at hp
 · exact absurd hp (by decide)
 split at hp
 · exact absurd hp (by decide)
 · omega
theorem ag {k : Int} (h : 1 ≤ k ∧ k ≤ 12) (hp : (partsOf k).1 = 1) : k = 10 := by
 unfold partsOf at hp
 split at hp
 · exact absurd hp (by decide)
 split at hp
 · omega
 split at hp
 · exact absurd hp (by decide)
 · exact absurd hp (by decide)
theorem aA {k : Int} (h : 1 ≤ k ∧ k ≤ 12) (hp : (partsOf k).1 = 2) : 3 ≤ k ∧ k ≤ 9 := by
 unfold partsOf at hp
 split at hp
 · exact absurd hp (by decide)
 split at hp
 · exact absurd hp (by decide)
 split at hp
 · omega
 · exact absurd hp (by decide)
theorem Stk.len {l : List Fo} {f : Nat → Int} (hw : ∀ (i : Nat) (_ : i < l.length), (AR l i).2 = 0) {i : Nat} {S : List Int} (h : Stk l f i S) : i ≤ l.length → S.length + i ≤ l.length := by
 induction h with
 | nil h => intro hi; simpa using hi
 | @cons i S hi h ih =>
   intro _
   have hb := A7 l i (hw i hi)
   have := ih (by omega)
   simp
   omega
abbrev evF (l : List Fo) (env : List Int) (i : Nat) : Int := (Cs l env i).getD 0
theorem PM {l : List Fo} {env : List Int} {i : Nat} (h : (Cs l env i).isSome) : Cs l env i = some (evF l env i) := by
 obtain ⟨v, hv⟩ := Option.isSome_iff_exists.1 h
 rw [evF, hv]; rfl
theorem Stk.put {l : List Fo} {env : List Int} {m : Nat} {base : List Int} {n : Int} (hm : m < l.length) (hn : Cs l env m = some n) (hS : Stk l (evF l env) (AR l m).1.toNat base) : Stk l (evF l env) m (base ++ [n]) := by
 have : evF l env m = n := by rw [evF, hn]; rfl
 rw [← this]
 exact .cons hm hS
theorem Qo {n : Int} (h : Ak n) : ovr n = some n := if_pos h
theorem Wj {n : Int} (h : ¬ Ak n) : ovr n = none := if_neg h
theorem Stk.step {l : List Fo} {env : List Int} (g : LH l env.length) (henv : ∀ v ∈ env, Ak v) {m : Nat} (hm : m < l.length) {S : List Int} (hS : Stk l (evF l env) (m + 1) S) (hv : ∀ j, m < j → j < l.length → (Cs l env j).isSome) :
 ∃ base n, cG l[m].kind l[m].val env S base n ∧ (Ak n → Cs l env m = some n ∧ Stk l (evF l env) m (base ++ [n])) ∧ (¬ Ak n → Cs l env m = none) := by
 obtain ⟨k1, k2, k3, k4⟩ := g.kind hm
 have hkm := Bq l m hm
 have hvm := Qp l m hm
 have ev := Kl l env m hm
 unfold NJ at ev
 rw [hkm, hvm] at ev
 -- what a value and where the stack stands behind it come to
 have fin : ∀ base n, Cs l env m = ovr n → Stk l (evF l env) (AR l m).1.toNat base → (Ak n → Cs l env m = some n ∧ Stk l (evF l env) m (base ++ [n])) ∧ (¬ Ak n → Cs l env m = none) := fun base n h hb =>
  ⟨fun hl => ⟨by rw [h, Qo hl], Stk.put hm (by rw [h, Qo hl]) hb⟩, fun hl => by rw [h, Wj hl]⟩
 rcases g.parts hm with ⟨n0, e0⟩ | ⟨n1, p1, e1⟩ | ⟨n2, p1, p2, p3, p4, e2⟩
 · rw [n0] at ev
   have ev' : Cs l env m = ovr (opV l[m].kind l[m].val env 0 0) := ev
   have hS' : Stk l (evF l env) (AR l m).1.toNat S := by rw [e0, show ((m : Int) + 1).toNat = m + 1 by omega]; exact hS
   have hk := aP ⟨k1, k2⟩ (by rw [← hkm]; exact n0)
   rcases hk with h | h | h | h
   · refine ⟨S, l[m].val, .inl ⟨rfl, .inl ⟨h, rfl, by have := k3 h; unfold Ak; omega⟩⟩, fin S _ (by rw [ev', h]; rfl) hS'⟩
   · have := k4 h
     have hlt : l[m].val.toNat < env.length := by omega
     refine ⟨S, env[l[m].val.toNat], .inr (.inl ⟨rfl, h, this.1, hlt, rfl⟩), fin S _ (by rw [ev', h]; simp [opV, hlt]) hS'⟩
   · refine ⟨S, 1, .inl ⟨rfl, .inr (.inl ⟨h, rfl⟩)⟩, fin S _ (by rw [ev', h]; rfl) hS'⟩
   · refine ⟨S, 0, .inl ⟨rfl, .inr (.inr ⟨h, rfl⟩)⟩, fin S _ (by rw [ev', h]; rfl) hS'⟩
 · rw [n1] at ev
   obtain ⟨S', rfl, hS'⟩ := hS.inv p1
   have ha := PM (hv (m + 1) (by omega) p1)
   rw [ha] at ev
   have ev' : Cs l env m = ovr (opV l[m].kind l[m].val env (evF l env (m + 1)) 0) := ev
   have hk := ag ⟨k1, k2⟩ (by rw [← hkm]; exact n1)
   have hty := g.typed m hm (m + 1) (by
    rw [show (partsOf (BJ l m)).1 = 1 from n1]; simp [EK])
   have hb : Pt (evF l env (m + 1)) := Oj p1 (hty.2 (by rw [hkm, hk]; decide)) ha
   generalize evF l env (m + 1) = a at *
   refine ⟨S', 1 - a, .inr (.inr (.inl ⟨hk, a, rfl, hb, rfl⟩)), fin S' _ ?_ (by rw [e1]; exact hS')⟩
   rw [ev', hk]
   rcases hb with rfl | rfl <;> rfl
 · rw [n2] at ev
   obtain ⟨S', rfl, hS'⟩ := hS.inv p1
   rw [p4, Int.toNat_natCast] at hS'
   obtain ⟨S'', rfl, hS''⟩ := hS'.inv p3
   have ha := PM (hv (m + 1) (by omega) p1)
   have hb := PM (hv (second l m) (by omega) p3)
   rw [ha, if_pos (show m < second l m by omega), hb] at ev
   have ev' : Cs l env m = ovr (opV l[m].kind l[m].val env (evF l env (m + 1)) (evF l env (second l m))) := ev
   have hk := aA ⟨k1, k2⟩ (by rw [← hkm]; exact n2)
   have la := ZR p1 ha
   have lb := ZR p3 hb
   have ty1 := g.typed m hm (m + 1) (by rw [show (partsOf (BJ l m)).1 = 2 from n2]; simp [EK])
   have ty2 := g.typed m hm (second l m) (by rw [show (partsOf (BJ l m)).1 = 2 from n2]; simp [EK, second])
   have bt : GV l[m].kind → Pt (evF l env (m + 1)) ∧ Pt (evF l env (second l m)) := fun ht =>
    ⟨Oj p1 (ty1.2 (by rw [hkm]; exact ht)) ha, Oj p3 (ty2.2 (by rw [hkm]; exact ht)) hb⟩
   rw [← e2] at hS''
   generalize evF l env (m + 1) = a at *
   generalize evF l env (second l m) = b at *
   have : l[m].kind = 3 ∨ l[m].kind = 4 ∨ l[m].kind = 5 ∨ l[m].kind = 6 ∨ l[m].kind = 7 ∨ l[m].kind = 8 ∨ l[m].kind = 9 := by omega
   rcases this with h | h | h | h | h | h | h
   · exact ⟨S'', a + b, .inr (.inr (.inr ⟨a, b, rfl, la, lb, .inl ⟨h, rfl⟩⟩)), fin S'' _ (by rw [ev', h]; rfl) hS''⟩
   · exact ⟨S'', a - b, .inr (.inr (.inr ⟨a, b, rfl, la, lb, .inr (.inl ⟨h, rfl⟩)⟩)), fin S'' _ (by rw [ev', h]; rfl) hS''⟩
   · exact ⟨S'', a * b, .inr (.inr (.inr ⟨a, b, rfl, la, lb, .inr (.inr (.inl ⟨h, rfl⟩))⟩)), fin S'' _ (by rw [ev', h]; rfl) hS''⟩
   · exact ⟨S'', _, .inr (.inr (.inr ⟨a, b, rfl, la, lb, .inr (.inr (.inr (.inl ⟨h, rfl⟩)))⟩)), fin S'' _ (by rw [ev', h]; simp [opV]) hS''⟩
   · exact ⟨S'', _, .inr (.inr (.inr ⟨a, b, rfl, la, lb, .inr (.inr (.inr (.inr (.inl ⟨h, rfl⟩))))⟩)), fin S'' _ (by rw [ev', h]; simp [opV]) hS''⟩
   · obtain ⟨b1, b2⟩ := bt (by omega)
     refine ⟨S'', bits .and .i64 a b, .inr (.inr (.inr ⟨a, b, rfl, la, lb, .inr (.inr (.inr (.inr (.inr (.inl ⟨h, b1, b2, rfl⟩)))))⟩)), fin S'' _ ?_ hS''⟩
     rw [ev', h]
     rcases b1 with rfl | rfl <;> rcases b2 with rfl | rfl <;> rfl
   · obtain ⟨b1, b2⟩ := bt (by omega)
     refine ⟨S'', bits .or .i64 a b, .inr (.inr (.inr ⟨a, b, rfl, la, lb, .inr (.inr (.inr (.inr (.inr (.inr ⟨h, b1, b2, rfl⟩)))))⟩)), fin S'' _ ?_ hS''⟩
     rw [ev', h]
     rcases b1 with rfl | rfl <;> rcases b2 with rfl | rfl <;> rfl
theorem dT {l : List Fo} {env : List Int} {vars : Int} (g : LH l vars) : ∀ (m i : Nat), i < l.length → (AR l i).1 ≤ ((i + m : Nat) : Int) → (Cs l env i).isSome → ∀ j, i ≤ j → (j : Int) < (AR l i).1 → (Cs l env j).isSome := by
 intro m
 induction m using Nat.strongRecOn with
 | _ m ih =>
 intro i hi hm hs j h1 h2
 by_cases e : j = i
 · subst e; exact hs
 have ev := Kl l env i hi
 unfold NJ at ev
 have hb := A7 l i (g.well i hi)
 rcases g.parts hi with ⟨n0, e0⟩ | ⟨n1, p1, e1⟩ | ⟨n2, p1, p2, p3, p4, e2⟩
 · omega
 · rw [n1] at ev
   have h3 : (Cs l env (i + 1)).isSome := by
    cases hx : Cs l env (i + 1) with
    | some v => rfl
    | none => rw [hx] at ev; rw [ev] at hs; exact absurd hs (by simp)
   exact ih (m - 1) (by omega) (i + 1) p1 (by omega) h3 j (by omega) (by omega)
 · rw [n2, if_pos (show i < second l i by omega)] at ev
   have hb1 := A7 l (i + 1) (g.well _ p1)
   have hb2 := A7 l (second l i) (g.well _ p3)
   have h3 : (Cs l env (i + 1)).isSome ∧ (Cs l env (second l i)).isSome := by
    cases hx : Cs l env (i + 1) with
    | none => rw [hx] at ev; rw [ev] at hs; exact absurd hs (by simp)
    | some v =>
      cases hy : Cs l env (second l i) with
      | some w => exact ⟨rfl, rfl⟩
      | none => rw [hx, hy] at ev; rw [ev] at hs; exact absurd hs (by simp)
   by_cases c : j < second l i
   · exact ih (m - 1) (by omega) (i + 1) p1 (by omega) h3.1 j (by omega) (by omega)
   · exact ih (m - (second l i - i)) (by omega) (second l i) p3 (by omega) h3.2 j (by omega) (by omega)
end Go.Sp
namespace Go.Proofs.YtnlfhnbcdfdhgaaGreatDoor
open Go Go.Av Go.Sp
theorem EC : Cal Tryz.prog 83 := Cal.of Tryz.func83 (by kernel_rfl) (by kernel_rfl)
theorem Nj : Cal Tryz.prog 134 := Cal.of Tryz.func134 (by kernel_rfl) (by kernel_rfl)
theorem TU (p q : Addr) (w : World) :
 CallsD Tryz.prog 134 #[.pointer (some p), .pointer (some q)] .returning w fun e u' w' => e = .returned (.tuple #[]) ∧ u' = .returning ∧ w' = w := by
 refine callsD_of_wpS Tryz.func134 rfl fun c₀ cs hu => ?_
 apply wpS_seq
 apply wpS_region
 simp [wpOpsS, go_sem, recoverD, hu, Tryz.ntmps134, Exit.thenS]
 apply wpS_seq
 apply wpS_region
 simp [wpOpsS, go_sem, Exit.thenS]
 refine wpS_cond (t := false) (by simp [Act.eval, Array.replicate]) ?_
 simp only [Bool.false_eq_true, if_false]
 refine wpS_of_wp (wp_skip ?_)
 cases c₀
 simp_all [bodyPostS, results, Tryz.results134]

theorem VZ (b c : Nat) (hbc : b ≠ c) (x y : Value) (n : Int) (w : World) (hb : w.heap[b]? = some (.cells #[x] 3 (0, 0))) (hc : w.heap[c]? = some (.cells #[y] 34 (0, 0))) :
 CallsD Tryz.prog 134 #[.pointer (some ⟨b, 0, none⟩), .pointer (some ⟨c, 0, none⟩)] (.panicking [{ v := .iface 34 (.int .i64 n), recovered := false }]) w fun e u' w' =>
  e = .returned (.tuple #[]) ∧ u' = .panicking [{ v := .iface 34 (.int .i64 n), recovered := true }] ∧ w' = ((w.setCell ⟨b, 0, none⟩ (.int .i64 0)).setCell ⟨c, 0, none⟩ (.int .i64 n)).drew := by
 refine callsD_of_wpS Tryz.func134 rfl fun c₀ cs hu => ?_
 apply wpS_seq
 apply wpS_region
 simp [wpOpsS, go_sem, recoverD, hu, Tryz.ntmps134, Exit.thenS]
 apply wpS_seq
 apply wpS_region
 simp [wpOpsS, go_sem, Exit.thenS]
 refine wpS_cond (t := true) (by simp [Act.eval, Array.replicate]) ?_
 simp only [if_true]
 refine wpS_of_wp ?_
 have hcb : w.cell? ⟨b, 0, none⟩ = some x := by rw [cell_of_row w b 0 _ _ _ hb]; rfl
 have hcc : w.cell? ⟨c, 0, none⟩ = some y := by rw [cell_of_row w c 0 _ _ _ hc]; rfl
 have fb : w.frozen? ⟨b, 0, none⟩ = false := by simp [World.frozen?, hb]
 have fc : w.frozen? ⟨c, 0, none⟩ = false := by simp [World.frozen?, hc]
 have hta : ∀ w : World, (Instr.typeAssert (.iface 34 (.int .i64 n)) 20 34 false).run Tryz.prog w = .ok (.int .i64 n) w := fun w => by
  simp [Instr.typeAssert, run_underlying Tryz.underlying34]
 go_region
 all_goals
  cases c₀
  simp_all [bodyPostS, results, Tryz.results134]

theorem Me (p q : Addr) (h : H) : CD Tryz.prog 134 #[.pointer (some p), .pointer (some q)] .returning h h .returning :=
 fun _ _ w hok => (TU p q w).mono fun _ _ _ ⟨h1, h2, h3⟩ => ⟨h1, h2, h3 ▸ hok, fun _ _ => by rw [h3]⟩
theorem OZ (b c : Nat) (x y : AV) (n : Int) : CD Tryz.prog 134 #[.pointer (some ⟨b, 0, none⟩), .pointer (some ⟨c, 0, none⟩)] (.panicking [{ v := .iface 34 (.int .i64 n), recovered := false }])
 [.cells c 34 [y], .cells b 3 [x]] [.cells c 34 [.int n], .cells b 3 [.val (.int .i64 0)]] (.panicking [{ v := .iface 34 (.int .i64 n), recovered := true }]) := by
 intro cx I w hok
 obtain ⟨u1, d1⟩ := Ent.cells_one (hok.ent (.cells b 3 [x]) (by simp))
 obtain ⟨u2, d2⟩ := Ent.cells_one (hok.ent (.cells c 34 [y]) (by simp))
 have hbc : b ≠ c := by
  have := hok.nd
  simp [blks, Ent.blk] at this
  exact fun e => this e.symm
 refine (VZ b c hbc u1 u2 n w d1 d2).mono ?_
 rintro e u' w' ⟨h1, h2, rfl⟩
 obtain ⟨k1, k2⟩ := Ok.set1 (h1 := [.cells c 34 [y]]) (h2 := []) (v := .int .i64 0) hok
 obtain ⟨k3, k4⟩ := Ok.set1 (h1 := []) (v := .int .i64 n) k1
 exact ⟨h1, h2, k3.same (C1.drewN 1), fun z hz => (k4 z hz).trans (k2 z hz)⟩
theorem cr (G : List (Nat × List D)) (bm : Nat) (env S base : List Int) (k v n : Int) (q : Sl) (hS : S.length ≤ 900) (h : cG k v env S base n) : AC Tryz.prog G 135 [.val (.pointer (some ⟨bm, 0, none⟩)), .agg [.int k, .int v]] [.cells bm 193 [.val q.v, .d (AK env)], AH q.v 3 1 Aa S] (DoQ bm env base n) := by
 rcases h with ⟨rfl, h⟩ | ⟨rfl, rfl, h0, h1, rfl⟩ | ⟨rfl, a, rfl, ha, rfl⟩ | ⟨a, b, rfl, la, lb, h⟩
 · exact do0 G bm env S k v n q (by omega) h
 · exact dov G bm env S v q (by omega) h0 h1
 · simp only [List.length_append, List.length_cons, List.length_nil] at hS
   exact don G bm env base v a q (by omega) ha
 · simp only [List.length_append, List.length_cons, List.length_nil] at hS
   have hm : -2000000000000 ≤ a * b ∧ a * b ≤ 2000000000000 := by
    have h : (a * b).natAbs ≤ 1000000 * 1000000 := by
     rw [Int.natAbs_mul]
     unfold Ak at la lb
     exact Nat.mul_le_mul (by omega) (by omega)
    generalize a * b = z at h
    omega
   rcases h with ⟨rfl, rfl⟩ | ⟨rfl, rfl⟩ | ⟨rfl, rfl⟩ | ⟨rfl, rfl⟩ | ⟨rfl, rfl⟩ | ⟨rfl, b1, b2, rfl⟩ | ⟨rfl, b1, b2, rfl⟩
   · exact ck G bm env base v a b q (by omega) la lb (by unfold Ak at la lb; omega)
   · exact dM G bm env base v a b q (by omega) la lb (by unfold Ak at la lb; omega)
   · exact cv G bm env base v a b q (by omega) la lb hm
   · exact fQ G bm env base v a b q (by omega) la lb (by split <;> decide)
   · exact fH G bm env base v a b q (by omega) la lb (by split <;> decide)
   · exact cR G bm env base v a b q (by omega) la lb (by rcases b1 with rfl | rfl <;> rcases b2 with rfl | rfl <;> decide)
   · exact ee G bm env base v a b q (by omega) la lb (by rcases b1 with rfl | rfl <;> rcases b2 with rfl | rfl <;> decide)
theorem Eval (l : List Fo) (env : List Int) : ACr Tryz.prog GP 83 [.d (AO l), .d (AK env)] (.tup [.int (CM l env).1, .int (CM l env).2]) := by
 refine AC.factI (f := Aa) (xs := env) (.there .here) fun hlv => ?_
 have hC := Yt l env.length
 refine Wz Tryz.f83.ntmps Tryz.func83 rfl rfl (by simp [Tryz.ntmps83]) fun W I => ?_
 have hgood := Q7 (l := l) (vars := env.length)
 unfold CM
 generalize Cp l env.length = p at hC hgood ⊢
 obtain ⟨t, e⟩ := p
 dsimp only at hC hgood ⊢
 apply ES
 repeat' (first
  | refine ca GJ (hC) ?_
  | exact True.intro | refine AG ?_ | refine two ?_ ?_ | refine AF fun c_ => ?_
  | (refine imp fun hc => ?_) <;> try exact cx1 hc
  | refine all fun v_ => ?_)
 rename_i bn
 rename Nat => be
 apply Bu
 apply ES
 by_cases he : e ≠ 0
 · repeat' (first
    | refine ca GJ (hC) ?_
    | exact True.intro | refine AG ?_ | refine two ?_ ?_ | refine AF fun c_ => ?_
    | (refine imp fun hc => ?_) <;> try exact cx1 hc
    | refine all fun v_ => ?_)
   apply Oc
   refine Dz (h0 := []) rfl (by unfold A0; kernel_rfl) (by unfold A0; kernel_rfl) rfl rfl (by exact Ab) (by exact Ab) rfl (List.nil_sublist _) (AV.le_refl _) (AV.le_refl _) ?_
   refine AB ?_
   rw [if_pos he]
 replace he := Decidable.not_not.1 he
 obtain ⟨g, _, hv6⟩ := hgood he
 have h60 := g.h60
 subst he
 rw [if_neg (fun h => h rfl)]
 repeat' (first
  | refine ca GJ (hC) ?_
  | exact True.intro | refine AG ?_ | refine two ?_ ?_ | refine AF fun c_ => ?_
  | (refine imp fun hc => ?_) <;> try exact cx1 hc
  | refine all fun v_ => ?_)
 apply Bu
 dsimp only
 apply ES
 repeat' (first
  | exact True.intro | refine AG ?_ | refine two ?_ ?_ | refine AF fun c_ => ?_
  | (refine imp fun hc => ?_) <;> try exact cx1 hc
  | refine all fun v_ => ?_)
 refine AM (X := Nat) (fun i => [(0, .d (AO l)), (1, .d (AK env)), (4, .val (.pointer (some ⟨bn, 0, none⟩))), (5, .val (.pointer (some ⟨be, 0, none⟩))), (22, .d (AK env)), (23, .int env.length), (24, .int i)]) (fun _ => [.cells be 34 [.int 0], .cells bn 3 [.int 0]]) (fun i => i ≤ env.length ∧ ∀ (j : Nat) (h : j < env.length), j < i → Ak env[j]) (fun i => env.length - i) 0 ⟨Nat.zero_le _, fun _ _ h => absurd h (Nat.not_lt_zero _)⟩ (VS.of_le ?_) ?_
 · exact leD
 rintro i ⟨h1, h2⟩
 by_cases hi : i < env.length
 · by_cases hl : Ak env[i]
   · have hl' := hl
     unfold Ak at hl'
     repeat' (first
      | exact True.intro | refine AG ?_ | refine two ?_ ?_ | refine AF fun c_ => ?_
      | (refine imp fun hc => ?_) <;> try exact cx1 hc
      | refine all fun v_ => ?_)
     refine ⟨i + 1, ⟨by omega, fun j hj hji => ?_⟩, by omega, VS.of_le ?_⟩
     · by_cases e : j = i
       · subst e; exact hl
       · exact h2 j hj (by omega)
     · exact leD
   · have hno : ¬ ∀ v ∈ env, Ak v := fun h => hl (h _ (List.getElem_mem hi))
     have hl' := hl
     unfold Ak at hl'
     rw [if_neg hno]
     repeat' (first
      | exact True.intro | refine AG ?_ | refine two ?_ ?_ | refine AF fun c_ => ?_
      | (refine imp fun hc => ?_) <;> try exact cx1 hc
      | refine all fun v_ => ?_)
     all_goals
      apply Oc
      refine Dz (h0 := []) rfl (by unfold A0; kernel_rfl) (by unfold A0; kernel_rfl) rfl rfl (by exact Ab) (by exact Ab) rfl (List.nil_sublist _) (AV.le_refl _) (AV.le_refl _) ?_
      exact AB rfl
 obtain rfl : i = env.length := by omega
 have henv : ∀ v ∈ env, Ak v := fun v hv => by
  obtain ⟨j, hj, rfl⟩ := List.getElem_of_mem hv
  exact h2 j hj hj
 rw [if_pos henv]
 repeat' (first
  | exact True.intro | refine AG ?_ | refine two ?_ ?_ | refine AF fun c_ => ?_
  | (refine imp fun hc => ?_) <;> try exact cx1 hc
  | refine all fun v_ => ?_)
 apply Bu
 dsimp only
 refine R9 (Pw (vs := [.pointer (some ⟨bn, 0, none⟩), .pointer (some ⟨be, 0, none⟩)]) rfl rfl ?_)
 apply Bu
 dsimp only
 apply ES
 repeat' (first
  | exact True.intro | refine AG ?_ | refine two ?_ ?_ | refine AF fun c_ => ?_
  | (refine imp fun hc => ?_) <;> try exact cx1 hc
  | refine all fun v_ => ?_)
 obtain ⟨bm, rfl⟩ : ∃ x, x = v_ := ⟨_, rfl⟩
 apply Bu
 dsimp only
 apply ES
 repeat' (first
  | exact True.intro | refine AG ?_ | refine two ?_ ?_ | refine AF fun c_ => ?_
  | (refine imp fun hc => ?_) <;> try exact cx1 hc
  | refine all fun v_ => ?_)
 refine AM (X := Nat × List Int × Sl) (fun y => [(0, .d (AO l)), (4, .val (.pointer (some ⟨bn, 0, none⟩))), (5, .val (.pointer (some ⟨be, 0, none⟩))), (10, .val (.pointer (some ⟨bm, 0, none⟩))), (11, .int ((y.1 : Int) - 1))]) (fun y => [.cells bm 193 [.val y.2.2.v, .d (AK env)], AH y.2.2.v 3 1 Aa y.2.1, .cells be 34 [.int 0], .cells bn 3 [.int 0]]) (fun y => y.1 ≤ l.length ∧ Stk l (evF l env) y.1 y.2.1 ∧ ∀ j, y.1 ≤ j → j < l.length → (Cs l env j).isSome) (fun y => y.1) (l.length, [], Sl.nil) ⟨Nat.le_refl _, .nil (Nat.le_refl _), fun j h1 h2 => by dsimp only at h1; omega⟩ (VS.trans (VS.nilrow 3 1) (VS.take (by exact AD) ?_)) ?_
 · exact leD
 rintro ⟨i, S, q⟩ ⟨k1, k2, k3⟩
 dsimp only at k1 k2 k3 ⊢
 have hSl := k2.len g.well k1
 cases i with
 | zero =>
   obtain ⟨S', rfl, hS'⟩ := k2.inv g.pos
   obtain ⟨_, _, hend, _, _⟩ := Ct (l := l) (es := (Aw l).1) (Prod.ext rfl g.ends)
   have hE : (Sp.AR l ((0 : Nat) : Int)).1.toNat = l.length := by
    rw [show ((0 : Nat) : Int) = 0 from rfl, hend]; exact Int.toNat_natCast _
   rw [hE] at hS'
   obtain rfl := hS'.fin (Nat.le_refl _)
   have h0 := PM (k3 0 (Nat.le_refl _) g.pos)
   have hwk : wk l env = (evF l env 0, 0) := by unfold wk; rw [h0]
   rw [hwk]
   generalize evF l env 0 = n
   repeat' (first
    | ((with_reducible apply As); (focus rfl); (focus exact B8); (focus exact pop GP bm env [] n q (by decide)); (focus exact AW); (focus rfl); (focus exact BO))
    | exact True.intro | refine AG ?_ | refine two ?_ ?_ | refine AF fun c_ => ?_
    | (refine imp fun hc => ?_) <;> try exact cx1 hc
    | refine all fun v_ => ?_)
   apply Bu
   dsimp only
   apply YL
   repeat' (first
    | ((with_reducible apply As); (focus rfl); (focus exact B8); (focus exact pop GP bm env [] n q (by decide)); (focus exact AW); (focus rfl); (focus exact BO))
    | exact True.intro | refine AG ?_ | refine two ?_ ?_ | refine AF fun c_ => ?_
    | (refine imp fun hc => ?_) <;> try exact cx1 hc
    | refine all fun v_ => ?_)
   refine Iu (by simp) Nj (Me _ _ _) (m := .returning) rfl ?_
   refine Dz (h0 := []) rfl (by unfold A0; kernel_rfl) (by unfold A0; kernel_rfl) rfl rfl (by exact Ab) (by exact Ab) rfl (List.nil_sublist _) (AV.le_refl _) (AV.le_refl _) ?_
   exact AB rfl
 | succ m =>
   have hm : m < l.length := by omega
   have hm1 : ((m + 1 : Nat) : Int) - 1 = (m : Int) := by omega
   obtain ⟨base, n, d, d1, d2⟩ := k2.step g henv hm (fun j h1 h2 => k3 j (by omega) h2)
   have hac := cr GP bm env S base l[m].kind l[m].val n q (by omega) d
   rw [hm1]
   repeat' (first
    | exact True.intro | refine AG ?_ | refine two ?_ ?_ | refine AF fun c_ => ?_
    | (refine imp fun hc => ?_) <;> try exact cx1 hc
    | refine all fun v_ => ?_)
   refine MH (hc := [_, _]) rfl Zn rfl hac rfl (fun r h' hq => ?_) (fun ch h' hq => ?_)
   · obtain ⟨v, ⟨hl, hr, rfl⟩ | ⟨_, hr, _⟩⟩ := hq
     · cases hr
       simp only [List.cons_append, List.nil_append]
       repeat' (first
        | exact True.intro | refine AG ?_ | refine two ?_ ?_ | refine AF fun c_ => ?_
        | (refine imp fun hc => ?_) <;> try exact cx1 hc
        | refine all fun v_ => ?_)
       refine ⟨(m, base ++ [n], v), ⟨by dsimp only; omega, (d1 hl).2, fun j h1 h2 => ?_⟩, by dsimp only; omega, VS.of_le ?_⟩
       · by_cases e : j = m
         · subst e; rw [(d1 hl).1]; rfl
         · exact k3 j (by dsimp only at h1; omega) h2
       · exact leD
     · cases hr
   · obtain ⟨v, ⟨_, hr, _⟩ | ⟨hl, hr, rfl⟩⟩ := hq
     · cases hr
     · cases hr
       have hno : Cs l env 0 = none := by
        cases hx : Cs l env 0 with
        | none => rfl
        | some v =>
          obtain ⟨_, _, hend, _, _⟩ := Ct (l := l) (es := (Aw l).1) (Prod.ext rfl g.ends)
          have hend' : (Sp.AR l ((0 : Nat) : Int)).1 = l.length := by rw [show ((0 : Nat) : Int) = 0 from rfl, hend]
          have := dT g l.length 0 g.pos (by rw [hend']; omega) (by rw [hx]; rfl) m (Nat.zero_le _) (by rw [hend']; omega)
          rw [d2 hl] at this; exact absurd this (by simp)
       have hwk : wk l env = (0, 8) := by unfold wk; rw [hno]
       rw [hwk]
       simp only [List.cons_append, List.nil_append]
       repeat' (refine stp ?_)
       apply Jr
       refine US (VS.take (hc := [.cells be 34 [.int 0], .cells bn 3 [.int 0]]) (by exact AD) (Env.le_refl _)) ?_
       refine Iu (by simp) Nj (OZ bn be _ _ 8) (m := .returning) rfl ?_
       refine Dz (h0 := []) rfl (by unfold A0; kernel_rfl) (by unfold A0; kernel_rfl) rfl rfl (by exact Ab) (by exact Ab) rfl (List.nil_sublist _) (AV.le_refl _) (AV.le_refl _) ?_
       exact AB rfl
end Go.Proofs.YtnlfhnbcdfdhgaaGreatDoor
namespace Go.Sp
open Go Go.Av

theorem KL (n : Int) : ∀ (l : List Ru), D0 n l = 0 → ∀ r ∈ l, ED r n = 0
 | [], _, r, hr => by cases hr
 | r :: l, h, q, hq => by
   rw [D0] at h
   by_cases c : ED r n ≠ 0
   · rw [if_pos c] at h; exact absurd h c
   · rw [if_neg c] at h
     rcases List.mem_cons.1 hq with rfl | hq
     · exact Decidable.not_not.1 c
     · exact KL n l h q hq
theorem MP (n : Int) : ∀ (l : List St) (seen : List Int), FL n l seen = 0 → (∀ s ∈ l, 0 ≤ s.var ∧ s.var < n ∧ Cj s.val n false = 0 ∧ s.var ∉ seen) ∧ (l.map St.var).Nodup
 | [], _, _ => ⟨fun s hs => (by cases hs), List.nodup_nil⟩
 | s :: l, seen, h => by
   rw [FL] at h
   by_cases c1 : ¬ (0 ≤ s.var ∧ s.var < n)
   · rw [if_pos c1] at h; exact absurd h (by decide)
   rw [if_neg c1] at h
   by_cases c2 : s.var ∈ seen
   · rw [if_pos c2] at h; exact absurd h (by decide)
   rw [if_neg c2] at h
   by_cases c3 : Cj s.val n false ≠ 0
   · rw [if_pos c3] at h; exact absurd h c3
   rw [if_neg c3] at h
   obtain ⟨i1, i2⟩ := MP n l _ h
   refine ⟨fun q hq => ?_, ?_⟩
   · rcases List.mem_cons.1 hq with rfl | hq
     · exact ⟨by omega, by omega, Decidable.not_not.1 c3, c2⟩
     · obtain ⟨a, b, c, d⟩ := i1 q hq
       exact ⟨a, b, c, fun hm => d (List.mem_append_left _ hm)⟩
   · rw [List.map_cons, List.nodup_cons]
     refine ⟨fun hm => ?_, i2⟩
     obtain ⟨q, hq, he⟩ := List.mem_map.1 hm
     exact (i1 q hq).2.2.2 (he ▸ List.mem_append_right _ (List.mem_singleton.2 rfl))
structure e8 (r : Ru) (n : Nat) : Prop where
 guard : Cp r.guard n = (true, 0)
 few : r.sets.length ≤ 6
 sets : ∀ s ∈ r.sets, 0 ≤ s.var ∧ s.var < n ∧ (Cp s.val n).2 = 0
 once : (r.sets.map St.var).Nodup
theorem Pp {l : List Fo} {n : Int} {t : Bool} (h : Cj l n t = 0) : Cp l n = (t, 0) := by
 unfold Cj at h
 by_cases c : (Cp l n).2 ≠ 0
 · rw [if_pos c] at h; exact absurd h c
 rw [if_neg c] at h
 by_cases c2 : (Cp l n).1 ≠ t
 · rw [if_pos c2] at h; exact absurd h (by decide)
 · exact Prod.ext (Decidable.not_not.1 c2) (Decidable.not_not.1 c)
theorem eU {m : Md} (h : Ag m = 0) {r : Ru} (hr : r ∈ m.rules) : e8 r m.vars.length := by
 have hv := Be h
 unfold Ag at h
 rw [if_neg (fun k => k hv)] at h
 by_cases c : 12 < m.rules.length
 · rw [if_pos c] at h; exact absurd h (by decide)
 rw [if_neg c] at h
 have hf := KL _ _ h r hr
 unfold ED at hf
 by_cases c1 : 6 < r.sets.length
 · rw [if_pos c1] at hf; exact absurd hf (by decide)
 rw [if_neg c1] at hf
 by_cases c2 : Cj r.guard m.vars.length true ≠ 0
 · rw [if_pos c2] at hf; exact absurd hf c2
 rw [if_neg c2] at hf
 obtain ⟨i1, i2⟩ := MP _ _ _ hf
 exact ⟨Pp (Decidable.not_not.1 c2), by omega, fun s hs => ⟨(i1 s hs).1, (i1 s hs).2.1, by rw [Pp (i1 s hs).2.2.1]⟩, i2⟩
def H5 (m : Md) (vs : List Int) (s : St) : Prop := (CM s.val vs).2 = 0 ∧ ∀ v, m.vars[s.var.toNat]? = some v → v.low ≤ (CM s.val vs).1 ∧ (CM s.val vs).1 ≤ v.high
def Ce (vs : List Int) : List St → List Int → List Int
 | [], out => out
 | s :: l, out => Ce vs l (out.set s.var.toNat (CM s.val vs).1)
theorem EB (vs : List Int) : ∀ (l : List St) (out : List Int), (Ce vs l out).length = out.length
 | [], _ => rfl
 | s :: l, out => by rw [Ce, EB vs l, List.length_set]
noncomputable instance (m : Md) (vs : List Int) (s : St) : Decidable (H5 m vs s) := Classical.propDecidable _
noncomputable def Ch (m : Md) (r : Ru) (vs : List Int) : Option (List Int) :=
 if CM r.guard vs = (1, 0) ∧ ∀ s ∈ r.sets, H5 m vs s then some (Ce vs r.sets vs) else none
theorem Ul {l : List Fo} {vs : List Int} (h : Cp l vs.length = (true, 0)) (hv : ∀ v ∈ vs, Ak v) : CM l vs = (0, 8) ∨ CM l vs = (0, 0) ∨ CM l vs = (1, 0) := by
 have h0 : (Cp l vs.length).2 = 0 := by rw [h]
 obtain ⟨g, _, _⟩ := Q7 h0
 unfold CM
 rw [if_neg (fun k => k h0), if_pos hv]
 unfold wk
 cases hx : Cs l vs 0 with
 | none => exact .inl rfl
 | some n =>
   have hk : C6 (BJ l 0) := by
    have := h
    unfold Cp at this
    by_cases c1 : (vs.length : Int) < 0 ∨ 6 < (vs.length : Int)
    · rw [if_pos c1] at this; exact absurd this (by simp)
    rw [if_neg c1, if_neg (fun k => k g.ends)] at this
    by_cases c2 : IX l vs.length ≠ 0
    · rw [if_pos c2] at this; exact absurd (Prod.mk.inj this).1 (by simp)
    rw [if_neg c2, if_pos g.typed] at this
    exact of_decide_eq_true (Prod.mk.inj this).1
   rcases Oj g.pos hk hx with rfl | rfl
   · exact .inr (.inl rfl)
   · exact .inr (.inr rfl)
def upd (vs : List Int) : List St → Nat → Int → Int
 | [], _, x => x
 | s :: l, i, x => upd vs l i (if s.var.toNat = i then (CM s.val vs).1 else x)
theorem MO (vs : List Int) : ∀ (l : List St) (out : List Int) (i : Nat), (Ce vs l out)[i]? = (out[i]?).map (upd vs l i)
 | [], out, i => by simp [Ce, upd, Option.map_id']
 | s :: l, out, i => by
   rw [Ce, MO vs l, List.getElem?_set]
   by_cases e : s.var.toNat = i
   · subst e
     rw [if_pos rfl]
     by_cases h : s.var.toNat < out.length
     · rw [if_pos h, List.getElem?_eq_getElem h]; simp [upd]
     · rw [if_neg h, List.getElem?_eq_none (by omega)]; rfl
   · rw [if_neg e]
     cases out[i]? with
     | none => rfl
     | some x => simp [upd, e]
theorem TJ (vs : List Int) : ∀ (l : List St) (i : Nat) (x : Int), upd vs l i x = x ∨ ∃ s ∈ l, s.var.toNat = i ∧ upd vs l i x = (CM s.val vs).1
 | [], _, _ => .inl rfl
 | s :: l, i, x => by
   rw [upd]
   by_cases e : s.var.toNat = i
   · rw [if_pos e]
     rcases TJ vs l i (CM s.val vs).1 with h | ⟨q, h1, h2, h3⟩
     · exact .inr ⟨s, List.mem_cons_self, e, h⟩
     · exact .inr ⟨q, List.mem_cons_of_mem _ h1, h2, h3⟩
   · rw [if_neg e]
     rcases TJ vs l i x with h | ⟨q, h1, h2, h3⟩
     · exact .inl h
     · exact .inr ⟨q, List.mem_cons_of_mem _ h1, h2, h3⟩
theorem Jb : ∀ (l : List Vr) (xs : List Int) (n : Int), (∀ (i : Nat) (h : i < l.length) (h' : i < xs.length), l[i].low ≤ xs[i] ∧ xs[i] ≤ l[i].high) → (Dh n l xs).2 = 0
 | [], xs, n, _ => by simp [Dh]
 | v :: l, [], n, _ => by simp [Dh]
 | v :: l, x :: xs, n, h => by
   have h0 : v.low ≤ x ∧ x ≤ v.high := h 0 (by simp) (by simp)
   rw [Dh, if_pos h0]
   exact Jb l xs _ fun i h1 h2 => h (i + 1) (by simpa using h1) (by simpa using h2)
theorem QL {l : List Vr} (g : JN l) {c : Int} (h0 : 0 ≤ c) (hc : c < AQ l) (i : Nat) (h : i < l.length) (h' : i < (CQ l c).length) : l[i].low ≤ (CQ l c)[i] ∧ (CQ l c)[i] ≤ l[i].high := by
 rw [Jh l c i (fun v hv => (g.span v hv).1) h0 hc h h']
 have hs := (g.span l[i] (List.getElem_mem h)).1
 have m1 := Int.emod_nonneg (c / AQ (l.drop (i + 1))) (show BD l[i] ≠ 0 by omega)
 have m2 := Int.emod_lt_of_pos (c / AQ (l.drop (i + 1))) (show 0 < BD l[i] by omega)
 unfold BD at m1 m2 ⊢
 omega
end Go.Sp
namespace Go.Proofs.YtnlfhnbcdfdhgaaGreatDoor
open Go Go.Av Go.Sp

theorem CL : Cal Tryz.prog 45 := Cal.of Tryz.func45 (by kernel_rfl) (by kernel_rfl)
theorem YX ( l : List Fo) (props : Int) : ACr Tryz.prog GP 45 [.d (AO l), .int props] (.tup [.d (AK (Ai l props).1), .int (Ai l props).2]) := by
 refine AJ (ts := [4, 5]) 32 Tryz.func45 rfl rfl rfl (by simp) fun W I => ?_
 refine DB (t := 0) rfl fun hl => ?_
 repeat' (first
  | refine ca Fl (Check _ _) ?_
  | refine ca BQ (ahead _ _) ?_
  | exact True.intro | refine AG ?_ | refine two ?_ ?_ | refine AF fun c_ => ?_
  | (refine imp fun hc => ?_) <;> try exact cx1 hc
  | refine all fun v_ => ?_)
 · refine AN (EZ (t := 4) 1 8 rfl) ?_
   ((with_reducible apply rq2); rfl; rfl; rfl)
   refine AB ?_
   rw [Ai, if_pos hc]; rfl
 have hs : Ai l props = (DU l 0, 0) := by rw [Ai, if_neg hc]
 refine F6 (E := 3) (sz := 1) Aa ?_
 refine AM (X := Nat × Sl × List Int) (fun y => [(0, .d (AO l)), (7, .val y.2.1.v), (16, .d (AO l)), (17, .int l.length), (18, .int y.1)]) (fun y => [AH y.2.1.v 3 1 Aa y.2.2]) (fun y => y.1 ≤ l.length ∧ y.2.2.length ≤ y.1 ∧ DU l 0 = y.2.2 ++ DU (l.drop y.1) y.1) (fun y => l.length - y.1) (0, Sl.nil, []) ⟨Nat.zero_le _, Nat.le_refl _, rfl⟩ (VS.of_le ?_) ?_
 · exact leD
 rintro ⟨i, v, out⟩ ⟨k1, k2, k3⟩
 dsimp only at k1 k2 k3 ⊢
 by_cases hi : i < l.length
 · rw [Nr l i hi] at k3
   repeat' (first
    | refine ca Fl (Check _ _) ?_
    | refine ca BQ (ahead _ _) ?_
    | exact True.intro | refine AG ?_ | refine two ?_ ?_ | refine AF fun c_ => ?_
    | (refine imp fun hc => ?_) <;> try exact cx1 hc
    | refine all fun v_ => ?_)
   · rw [if_pos hc] at k3
     refine ⟨(i + 1, v_, out ++ [(i : Int)]), ⟨by dsimp only; omega, by simp; omega, by simpa using k3⟩, by dsimp only; omega, VS.take (by exact AW) ?_⟩
     exact leD
   · rw [if_neg hc] at k3
     refine ⟨(i + 1, v, out), ⟨by dsimp only; omega, by dsimp only; omega, k3⟩, by dsimp only; omega, VS.take (by exact AW) ?_⟩
     exact leD
 · rw [LK l i (by omega), List.append_nil] at k3
   repeat' (first
    | refine ca Fl (Check _ _) ?_
    | refine ca BQ (ahead _ _) ?_
    | exact True.intro | refine AG ?_ | refine two ?_ ?_ | refine AF fun c_ => ?_
    | (refine imp fun hc => ?_) <;> try exact cx1 hc
    | refine all fun v_ => ?_)
   refine AN (By (t := 4) (eb := 8) rfl rfl (fun x => rfl) (by omega)) ?_
   ((with_reducible apply rq2); rfl; rfl; rfl)
   refine AB ?_
   rw [hs, k3]

end Go.Proofs.YtnlfhnbcdfdhgaaGreatDoor
namespace Go.Sp
open Go Go.Av
def cC (vs : List Int) (p : List Fo) : Bool := decide ((CM p vs).2 = 0) && decide ((CM p vs).1 = 1)
abbrev QB (l : List (List Fo)) (vs : List Int) (i : Nat) : Bool := cC vs ((l[i]?).getD [])
noncomputable def KQ (m : Md) (l : List (List Fo)) (c : Int) : List Bool × Int :=
 if Cd m l ≠ 0 then ([], Cd m l) else if (CJ m c).2 ≠ 0 then ([], (CJ m c).2) else ((List.range l.length).map (QB l (CJ m c).1), 0)
theorem Wg {l : List (List Fo)} {vs : List Int} {i : Nat} (h : i < l.length) {n e : Int} (he : CM l[i] vs = (n, e)) : QB l vs i = (decide (e = 0) && decide (n = 1)) := by
 rw [QB, List.getElem?_eq_getElem h, Option.getD_some, cC, he]
theorem Kq {m : Md} {l : List (List Fo)} (h : Cd m l = 0) : Ag m = 0 ∧ l.length ≤ 6 := by
 unfold Cd at h
 by_cases c1 : Ag m ≠ 0
 · rw [if_pos c1] at h; exact absurd h c1
 rw [if_neg c1] at h
 by_cases c2 : 6 < l.length
 · rw [if_pos c2] at h; exact absurd h (by decide)
 · exact ⟨Decidable.not_not.1 c1, by omega⟩
end Go.Sp
namespace Go.Proofs.YtnlfhnbcdfdhgaaGreatDoor
open Go Go.Av Go.Sp
theorem GG : Cal Tryz.prog 47 := Cal.of Tryz.func47 (by kernel_rfl) (by kernel_rfl)
theorem FE : Cal Tryz.prog 75 := Cal.of Tryz.func75 (by kernel_rfl) (by kernel_rfl)
theorem PH (m : Md) (l : List (List Fo)) (c : Int) : ACr Tryz.prog GP 47 [mdA m, .d (BU l), .int c] (.tup [.d (Bt (KQ m l c).1), .int (KQ m l c).2]) := by
 have hP := bq m l
 have hV := ZM m c
 have hfew := Kq (m := m) (l := l)
 unfold KQ
 generalize Cd m l = e1 at hP hfew ⊢
 generalize CJ m c = q at hV ⊢
 obtain ⟨vs, e2⟩ := q
 dsimp only at hV ⊢
 refine AJ (ts := [6, 7]) Tryz.f47.ntmps Tryz.func47 rfl rfl rfl (by simp [Tryz.ntmps47]) fun W I => ?_
 by_cases h1 : e1 ≠ 0
 · repeat' (first
    | refine ca F8 (hP) ?_
    | refine ca Dm (hV) ?_
    | exact True.intro | refine AG ?_ | refine two ?_ ?_ | refine AF fun c_ => ?_
    | (refine imp fun hc => ?_) <;> try exact cx1 hc
    | refine all fun v_ => ?_)
   refine AN (VS.trans (VS.drop (List.nil_sublist _)) (EZ (t := 6) 1 1 rfl)) ?_
   ((with_reducible apply rq2); rfl; rfl; rfl)
   refine AB ?_
   rw [if_pos h1]; rfl
 rw [if_neg h1]
 replace h1 := Decidable.not_not.1 h1
 obtain ⟨_, hl6⟩ := hfew h1
 by_cases h2 : e2 ≠ 0
 · repeat' (first
    | refine ca F8 (hP) ?_
    | refine ca Dm (hV) ?_
    | exact True.intro | refine AG ?_ | refine two ?_ ?_ | refine AF fun c_ => ?_
    | (refine imp fun hc => ?_) <;> try exact cx1 hc
    | refine all fun v_ => ?_)
   refine AN (VS.trans (VS.drop (List.nil_sublist _)) (EZ (t := 6) 1 1 rfl)) ?_
   ((with_reducible apply rq2); rfl; rfl; rfl)
   refine AB ?_
   rw [if_pos h2]; rfl
 rw [if_neg h2]
 repeat' (first
  | refine ca F8 (hP) ?_
  | refine ca Dm (hV) ?_
  | exact True.intro | refine AG ?_ | refine two ?_ ?_ | refine AF fun c_ => ?_
  | (refine imp fun hc => ?_) <;> try exact cx1 hc
  | refine all fun v_ => ?_)
 refine AM (X := Nat × List Bool) (fun y => [(9, .d (AK vs)), (11, .val (.slice (some ⟨v_, 0, none⟩) l.length l.length)), (34, .d (BU l)), (35, .int l.length), (36, .int y.1)]) (fun y => [.cells v_ 4 (y.2.map AV.bool)]) (fun y => y.1 ≤ l.length ∧ PE (QB l vs) l.length y.1 y.2) (fun y => l.length - y.1) (0, List.replicate l.length false) ⟨Nat.zero_le _, PE.start _ _⟩ (VS.take (by exact AD) ?_) ?_
 · exact leD
 rintro ⟨i, row⟩ ⟨d1, d2⟩
 dsimp only at d1 d2 ⊢
 have dl := d2.len
 by_cases hi : i < l.length
 · have hE := Eval l[i] vs
   have hx := fun n e he => Wg (vs := vs) hi (n := n) (e := e) he
   generalize CM l[i] vs = q at hE hx
   obtain ⟨n, e⟩ := q
   dsimp only at hE
   have hx := hx n e rfl
   repeat' (first
    | refine ca EC (hE) ?_
    | exact True.intro | refine AG ?_ | refine two ?_ ?_ | refine AF fun c_ => ?_
    | (refine imp fun hc => ?_) <;> try exact cx1 hc
    | refine all fun v_ => ?_)
   all_goals
    refine ⟨(i + 1, row.set i _), ⟨by dsimp only; omega, d2.next ?_⟩, by dsimp only; omega, VS.of_le ?_⟩
    rotate_left
    · exact leD
    rw [hx]; simp_all
 obtain rfl : i = l.length := by omega
 have hr := d2.fin
 repeat' (first
  | exact True.intro | refine AG ?_ | refine two ?_ ?_ | refine AF fun c_ => ?_
  | (refine imp fun hc => ?_) <;> try exact cx1 hc
  | refine all fun v_ => ?_)
 refine AN (vfz (t := 6) (f := Ns) (h1 := []) 1 1 rfl rfl rfl (Ex row) dl (fun _ => rfl) (by omega) (by omega)) ?_
 ((with_reducible apply rq2); rfl; rfl; rfl)
 refine AB ?_
 rw [hr]
end Go.Proofs.YtnlfhnbcdfdhgaaGreatDoor
namespace Go.Av
open Go

def D2 (w : World) (I : Nat → Prop) : List D → List Value → Prop
 | [], [] => True
 | x :: xs, c :: cs => Rel w I x c ∧ D2 w I xs cs
 | _, _ => False
theorem D2.length {w : World} {I : Nat → Prop} : ∀ {xs : List D} {cs : List Value}, D2 w I xs cs → xs.length = cs.length
 | [], [], _ => rfl
 | _ :: _, _ :: _, ⟨_, h⟩ => by simp [D2.length h]
theorem D2.get {w : World} {I : Nat → Prop} : ∀ {xs : List D} {cs : List Value}, D2 w I xs cs → ∀ (u : Nat) (x : D), xs[u]? = some x → ∃ c, cs[u]? = some c ∧ Rel w I x c
 | [], [], _, _, _, h => by simp at h
 | x :: xs, c :: cs, ⟨h1, h2⟩, u, y, h => by
   cases u with
   | zero => simp at h; subst h; exact ⟨c, rfl, h1⟩
   | succ u => simpa using D2.get h2 u y (by simpa using h)
theorem D2.append {w : World} {I : Nat → Prop} : ∀ {xs ys : List D} {cs ds : List Value}, D2 w I xs cs → D2 w I ys ds → D2 w I (xs ++ ys) (cs ++ ds)
 | [], _, [], _, _, h => h
 | _ :: _, _, _ :: _, _, ⟨h1, h2⟩, h => ⟨h1, D2.append h2 h⟩
theorem D2.av {w : World} {I : Nat → Prop} : ∀ {xs : List D} {cs : List Value}, D2 w I xs cs → AV.rels w I (xs.map D.av) cs
 | [], [], _ => trivial
 | _ :: _, _ :: _, ⟨h1, h2⟩ => ⟨D.av_rel h1, D2.av h2⟩

def Bf (P : Program) : Nat → TypeId → List D → Prop
 | 0, _, _ => False
 | fuel + 1, t, xs =>
   match P.underlying t with
   | some .bool => ∃ b, xs = [.b b]
   | some (.int k) => ∃ n, xs = [.i k n] ∧ (Lit.int k n).wf = true
   | some .string => ∃ s, xs = [.s s] ∧ s.size ≤ 140737488355328
   | some (.slice e) => ∃ rows, xs = [.l (P.cellsOf e) (P.bytesOf e) rows] ∧ (∀ r ∈ rows, Bf P fuel e r) ∧ rows.length * P.bytesOf e ≤ 140737488351232
   | some (.struct fs) => ∃ parts : List (List D), xs = parts.flatten ∧ parts.length = fs.size ∧ ∀ (i : Nat) (f : Field) (p : List D), fs[i]? = some f → parts[i]? = some p → Bf P fuel f.type p
   | some (.array n e) => ∃ parts : List (List D), xs = parts.flatten ∧ parts.length = n ∧ ∀ p ∈ parts, Bf P fuel e p
   | _ => False

def OH (P : Program) : Nat → List Field → Bool
 | _, [] => true
 | off, f :: fs => f.offset == off && OH P (off + P.cellsOf f.type) fs
def Dp (P : Program) : Nat → TypeId → Bool
 | 0, _ => false
 | fuel + 1, t =>
   match P.underlying t with
   | some .bool | some (.int _) | some .string => true
   | some (.slice e) => decide (0 < P.cellsOf e) && Dp P fuel e
   | some (.struct fs) => OH P 0 fs.toList && (fs.toList.map fun f => P.cellsOf f.type).sum == P.cellsOf t && fs.toList.all fun f => Dp P fuel f.type
   | some (.array n e) => P.cellsOf t == n * P.cellsOf e && Dp P fuel e
   | _ => false

theorem Ek {H : Type} {P : Program} {e : TypeId} : ∀ {ds : List (DataW H)} {d : DataW H}, d ∈ ds → ∀ x ∈ d.weights P e, x ∈ DataW.weightsAll P e ds
 | d' :: ds, d, h, x, hx => by
   simp only [DataW.weightsAll, List.mem_append]
   rcases List.mem_cons.1 h with rfl | h
   · exact .inl hx
   · exact .inr (Ek h x hx)
theorem Gl {H : Type} {P : Program} : ∀ {ts : List TypeId} {ds : List (DataW H)} (i : Nat) (t : TypeId) (d : DataW H), ts[i]? = some t → ds[i]? = some d → ∀ x ∈ d.weights P t, x ∈ DataW.weightsEach P ts ds
 | [], _, i, t, d, h, _, _, _ => by simp at h
 | _ :: _, [], i, t, d, _, h, _, _ => by simp at h
 | t' :: ts, d' :: ds, i, t, d, h1, h2, x, hx => by
   simp only [DataW.weightsEach, List.mem_append]
   cases i with
   | zero => simp at h1 h2; subst h1; subst h2; exact .inl hx
   | succ i => exact .inr (Gl i t d (by simpa using h1) (by simpa using h2) x hx)

theorem mapM_length {α β : Type} {f : α → Option β} : ∀ {l : List α} {r : List β}, l.mapM f = some r → r.length = l.length
 | [], r, h => by simp at h; subst h; rfl
 | x :: l, r, h => by
   simp only [List.mapM_cons, Option.bind_eq_bind, Option.bind_eq_some_iff, Option.pure_def, Option.some.injEq] at h
   obtain ⟨b, _, r', hr', rfl⟩ := h
   simp [mapM_length hr']

theorem HH {w : World} {a : Addr} {n : Nat} {cs : List Value} (h : w.cells? 0 a n = some cs) : cs.length = n ∧ ∀ (u : Nat) (c : Value), cs[u]? = some c → w.cell? (a.add u) = some c := by
 unfold World.cells? at h
 simp only [Nat.zero_le, if_true] at h
 have hl := mapM_length h
 simp at hl
 refine ⟨hl, fun u c hc => ?_⟩
 have hu : u < n := by rw [← hl]; exact (List.getElem?_eq_some_iff.1 hc).1
 obtain ⟨b, hb, hf⟩ := Lib.mapM_at h u u (by simp [hu])
 rw [hc] at hb
 cases hb
 exact hf

mutual
def D.bulk : D → Nat
 | .l _ _ rows => GC rows + 1
 | .s x => x.size + 1
 | _ => 1
def CR : List D → Nat
 | [] => 0
 | x :: xs => x.bulk + CR xs
def GC : List (List D) → Nat
 | [] => 0
 | r :: rs => CR r + GC rs
end
theorem JK : ∀ xs ys : List D, CR (xs ++ ys) = CR xs + CR ys
 | [], ys => by simp [CR]
 | x :: xs, ys => by rw [List.cons_append, CR, CR, JK xs ys]; omega
theorem Fk : ∀ rows : List (List D), CR rows.flatten = GC rows
 | [] => by simp [CR, GC]
 | r :: rows => by rw [List.flatten_cons, JK, GC, Fk rows]
theorem JB {β : Type} {f : β → List D} {g : β → Nat} : ∀ {l : List β}, (∀ i ∈ l, CR (f i) ≤ g i) → GC (l.map f) ≤ (l.map g).sum
 | [], _ => by simp [GC]
 | i :: l, h => by
   have := JB (l := l) fun j hj => h j (List.mem_cons_of_mem _ hj)
   have := h i (by simp)
   simp only [List.map_cons, GC, List.sum_cons]
   omega
structure EM {H : Type} (B : DataW H → Nat) : Prop where
 lit : ∀ l, 1 ≤ B (.lit l)
 str : ∀ l, l.length + 1 ≤ B (.lit (.string l))
 nil : 1 ≤ B .nil
 slice : ∀ es sp, (es.map B).sum + 1 ≤ B (.slice es sp)
 agg : ∀ ps, (ps.map B).sum + 1 ≤ B (.agg ps)

theorem PQ {H : Type} {enc : TypeId × Value → H} {P : Program} {W : World} (B : DataW H → Nat) : ∀ (g : Nat) (fuel : Nat) (t : TypeId) (cs : List Value) (d : DataW H) (ps : List MemPlace),
 DataW.trod enc P W 0 (fun _ => true) true fuel t cs = some (d, ps) → Dp P g t = true → (∀ x ∈ d.weights P t, x ≤ reachBytes) → ∃ xs, D2 W (fun b => b < W.heap.size) xs cs ∧ Bf P g t xs ∧ (EM B → CR xs ≤ B d)
 | 0, _, _, _, _, _, _, h, _ => by simp [Dp] at h
 | g + 1, fuel, t, cs, d, ps, h, hp, hw => by
   unfold Dp at hp
   unfold Bf
   cases hu : P.underlying t with
   | none => rw [hu] at hp; simp at hp
   | some td =>
     rw [hu] at hp
     cases td with
     | bool =>
       obtain ⟨b, rfl, he⟩ := DataW.trod_bool hu h
       refine ⟨[.b b], ⟨.b b, trivial⟩, ⟨b, rfl⟩, fun hB => ?_⟩
       cases he
       simpa [CR, D.bulk] using hB.lit _
     | int k =>
       obtain ⟨n, rfl, he, hwf⟩ := DataW.trod_int hu h
       refine ⟨[.i k n], ⟨.i k n, trivial⟩, ⟨n, rfl, hwf⟩, fun hB => ?_⟩
       cases he
       simpa [CR, D.bulk] using hB.lit _
     | string =>
       obtain ⟨s, rfl, he, hs⟩ := DataW.trod_string hu h
       cases he
       have := hw s.data.toList.length (by unfold DataW.weights; exact List.mem_singleton.2 rfl)
       simp only [reachBytes] at this
       have e : s.size = s.data.toList.length := by rw [Array.length_toList]; rfl
       refine ⟨[.s s], ⟨.s s, trivial⟩, ⟨s, rfl, by omega⟩, fun hB => ?_⟩
       have := hB.str s.data.toList
       simp only [CR, D.bulk]
       omega
     | slice e =>
       simp only [Bool.and_eq_true, decide_eq_true_eq] at hp
       obtain ⟨hc0, hpe⟩ := hp
       rcases Go.Deep.open_slice hu h with ⟨rfl, he⟩ | ⟨a, len, cap, m, n, Df, Pl, rfl, _, hlc, hcm, hm, hx, hel⟩
       · refine ⟨[.l (P.cellsOf e) (P.bytesOf e) []], ⟨.nil _ _, trivial⟩, ⟨[], rfl, by simp, by simp⟩, fun hB => ?_⟩
         cases he
         simpa [CR, D.bulk, GC] using hB.nil
       · simp only [if_true] at hm
         subst hm
         have hd : d = .slice ((List.range len).map Df) ((List.range (m - len)).map fun j => Df (len + j)) := congrArg Prod.fst hx
         subst hd
         simp only [DataW.weights, hu] at hw
         have hbytes := hw _ (List.mem_cons_self ..)
         simp only [List.length_map, List.length_range, reachBytes] at hbytes
         have key : ∀ i, ∃ r : List D, i < len → ∃ cs', W.cells? 0 (a.add (i * P.cellsOf e)) (P.cellsOf e) = some cs' ∧ D2 W (fun b => b < W.heap.size) r cs' ∧ Bf P g e r ∧ (EM B → CR r ≤ B (Df i)) := fun i => by
          by_cases hi : i < len
          · obtain ⟨cs', hcs, htr⟩ := hel i (by omega)
            obtain ⟨r, h1, h2, h3⟩ := PQ B g n e cs' (Df i) (Pl i) htr hpe fun x hx' => hw x (List.mem_cons_of_mem _ (List.mem_append.2 (.inl (Ek (List.mem_map.2 ⟨i, List.mem_range.2 hi, rfl⟩) x hx'))))
            exact ⟨r, fun _ => ⟨cs', hcs, h1, h2, h3⟩⟩
          · exact ⟨[], fun h => absurd h hi⟩
         let rf : Nat → List D := fun i => Classical.choose (key i)
         have hrf : ∀ i, i < len → ∃ cs', W.cells? 0 (a.add (i * P.cellsOf e)) (P.cellsOf e) = some cs' ∧ D2 W (fun b => b < W.heap.size) (rf i) cs' ∧ Bf P g e (rf i) ∧ (EM B → CR (rf i) ≤ B (Df i)) := fun i => Classical.choose_spec (key i)
         have hget : ∀ (j : Nat) (r : List D), ((List.range len).map rf)[j]? = some r → j < len ∧ r = rf j := fun j r hj => by
          have hlt : j < len := by
           have := (List.getElem?_eq_some_iff.1 hj).1
           simpa using this
          rw [List.getElem?_map, List.getElem?_range hlt] at hj
          simp at hj
          exact ⟨hlt, hj.symm⟩
         have hlen : ((List.range len).map rf).length = len := by simp
         have hconf : ∀ r ∈ (List.range len).map rf, Bf P g e r := fun r hr => by
          obtain ⟨i, hi, rfl⟩ := List.mem_map.1 hr
          obtain ⟨_, _, _, h3, _⟩ := hrf i (List.mem_range.1 hi)
          exact h3
         have hsz : ∀ r ∈ (List.range len).map rf, r.length = P.cellsOf e := fun r hr => by
          obtain ⟨i, hi, rfl⟩ := List.mem_map.1 hr
          obtain ⟨cs', h1, h2, _⟩ := hrf i (List.mem_range.1 hi)
          rw [h2.length]; exact (HH h1).1
         have hlb : len * P.bytesOf e ≤ 140737488351232 := Nat.le_trans (Nat.mul_le_mul_right _ (show len ≤ len + (m - len) by omega)) hbytes
         have hbk : EM B → CR [.l (P.cellsOf e) (P.bytesOf e) ((List.range len).map rf)] ≤ B (.slice ((List.range len).map Df) ((List.range (m - len)).map fun j => Df (len + j))) := fun hB => by
          have h1 := JB (f := rf) (g := fun i => B (Df i)) (l := List.range len) fun i hi => by
           obtain ⟨_, _, _, _, h3⟩ := hrf i (List.mem_range.1 hi)
           exact h3 hB
          have h2 := hB.slice ((List.range len).map Df) ((List.range (m - len)).map fun j => Df (len + j))
          rw [List.map_map] at h2
          simp only [CR, D.bulk]
          simp only [Function.comp_def] at h2
          omega
         refine ⟨[.l (P.cellsOf e) (P.bytesOf e) ((List.range len).map rf)], ⟨?_, trivial⟩, ⟨_, rfl, hconf, by rw [hlen]; exact hlb⟩, hbk⟩
         by_cases hm0 : m = 0
         · have h0 : len = 0 := by omega
           subst h0; subst hm0
           exact .emp _ _ a
         · have hcell : ∃ v, W.cell? a = some v := by
            obtain ⟨cs', hcs, _⟩ := hel 0 (by omega)
            obtain ⟨h1, h2⟩ := HH hcs
            rw [Nat.zero_mul] at h2
            have h0 : 0 < cs'.length := by omega
            exact ⟨cs'[0], by have := h2 0 _ (List.getElem?_eq_getElem h0); simpa [Addr.add] using this⟩
           obtain ⟨v, hv⟩ := hcell
           have hblk : a.block < W.heap.size := World.block_lt_of_cell? _ _ hv
           let css : Nat → Nat → Value := fun j u => (W.cell? (a.add (j * P.cellsOf e + u))).getD undef
           have hval : ∀ (j u : Nat) (r : List D) (x : D), ((List.range len).map rf)[j]? = some r → r[u]? = some x → W.cell? (a.add (j * P.cellsOf e + u)) = some (css j u) ∧ Rel W (fun b => b < W.heap.size) x (css j u) := fun j u r x hj hx => by
            obtain ⟨hlt, rfl⟩ := hget j r hj
            obtain ⟨cs', h1, h2, _⟩ := hrf j hlt
            obtain ⟨c, hc, hrel⟩ := h2.get u x hx
            have hcell := (HH h1).2 u c hc
            rw [Addr.add_add] at hcell
            simp only [css, hcell, Option.getD_some]
            exact ⟨trivial, hrel⟩
           have := Rel.l (w := W) (I := fun b => b < W.heap.size) (P.cellsOf e) (P.bytesOf e) ((List.range len).map rf) a m css hblk (by rw [hlen]; exact hlc) hcm (by rw [hlen]; omega) hsz (fun j u r x hj hx => (hval j u r x hj hx).1) (fun j u r x hj hx => (hval j u r x hj hx).2)
           rwa [hlen] at this
     | struct fs =>
       simp only [Bool.and_eq_true, List.all_eq_true, beq_iff_eq] at hp
       obtain ⟨⟨hco, hsum⟩, hpf⟩ := hp
       obtain ⟨ys, n, _, hx, hlc, hyl, hf⟩ := DataW.trod_struct hu h
       have hd : d = .agg (ys.map (·.1)) := congrArg Prod.fst hx
       subst hd
       simp only [DataW.weights, hu] at hw
       have key : ∀ i : Nat, ∃ r : List D, ∀ f : Field, fs[i]? = some f → D2 W (fun b => b < W.heap.size) r ((cs.drop f.offset).take (P.cellsOf f.type)) ∧ Bf P g f.type r ∧ (EM B → CR r ≤ ((ys[i]?).map fun y => B y.1).getD 0) := fun i => by
        cases hfi : fs[i]? with
        | none => exact ⟨[], fun f hff => absurd hff (by simp)⟩
        | some f =>
          have hi : i < fs.size := (Array.getElem?_eq_some_iff.1 hfi).1
          have hyi : ys[i]? = some ys[i] := List.getElem?_eq_getElem (by omega)
          have htr := hf i f hfi
          rw [hyi] at htr
          have hmem : f ∈ fs.toList := by
           rw [← Array.getElem?_toList] at hfi
           exact List.mem_of_getElem? hfi
          obtain ⟨r, h1, h2, h3⟩ := PQ B g n f.type _ (ys[i]).1 (ys[i]).2 htr (hpf f hmem) fun x hx' => hw x (Gl i f.type (ys[i]).1 (by rw [List.getElem?_map, Array.getElem?_toList, hfi]; rfl) (by rw [List.getElem?_map, hyi]; rfl) x hx')
          exact ⟨r, fun f' hf' => by rw [← Option.some.inj hf']; exact ⟨h1, h2, fun hB => by rw [hyi]; exact h3 hB⟩⟩
       let pf : Nat → List D := fun i => Classical.choose (key i)
       have hpf' : ∀ (i : Nat) (f : Field), fs[i]? = some f → D2 W (fun b => b < W.heap.size) (pf i) ((cs.drop f.offset).take (P.cellsOf f.type)) ∧ Bf P g f.type (pf i) ∧ (EM B → CR (pf i) ≤ ((ys[i]?).map fun y => B y.1).getD 0) := fun i => Classical.choose_spec (key i)
       have walk : ∀ (l : List Field) (i off : Nat), (∀ j f, l[j]? = some f → fs[i + j]? = some f) → OH P off l = true → off + (l.map fun f => P.cellsOf f.type).sum = cs.length → D2 W (fun b => b < W.heap.size) ((List.range' i l.length).map pf).flatten (cs.drop off) := by
        intro l
        induction l with
        | nil => intro i off _ _ hs; simp at hs; subst hs; simp [D2]
        | cons f l ih =>
          intro i off hl hc hs
          simp only [OH, Bool.and_eq_true, beq_iff_eq] at hc
          obtain ⟨ho, hc⟩ := hc
          simp only [List.map_cons, List.sum_cons] at hs
          have h0 := (hpf' i f (by simpa using hl 0 f rfl)).1
          rw [ho] at h0
          have h1 := ih (i + 1) (off + P.cellsOf f.type) (fun j f' hj => by have := hl (j + 1) f' (by simpa using hj); rwa [← Nat.add_assoc, Nat.add_right_comm] at this) hc (by omega)
          rw [List.length_cons, List.range'_succ, List.map_cons, List.flatten_cons]
          have e : cs.drop off = (cs.drop off).take (P.cellsOf f.type) ++ cs.drop (off + P.cellsOf f.type) := by
           rw [← List.drop_drop, List.take_append_drop]
          rw [e]
          exact h0.append h1
       have hbk : EM B → CR ((List.range' 0 fs.size).map pf).flatten ≤ B (.agg (ys.map (·.1))) := fun hB => by
        have h1 := JB (f := pf) (g := fun i => ((ys[i]?).map fun y => B y.1).getD 0) (l := List.range' 0 fs.size) fun i hi => by
         have hi : i < fs.size := by simpa using hi
         exact (hpf' i fs[i] (Array.getElem?_eq_getElem hi)).2.2 hB
        have h2 := hB.agg (ys.map (·.1))
        rw [List.map_map] at h2
        have e : (List.range' 0 fs.size).map (fun i => ((ys[i]?).map fun y => B y.1).getD 0) = ys.map (B ∘ (·.1)) := by
         apply List.ext_getElem
         · simp [hyl]
         · intro i h1 h2
           have hi : i < ys.length := by simpa using h2
           simp [List.getElem?_eq_getElem hi]
        rw [e] at h1
        rw [Fk]
        omega
       refine ⟨((List.range' 0 fs.size).map pf).flatten, ?_, ⟨(List.range' 0 fs.size).map pf, rfl, by simp, fun i f p hfi hpi => ?_⟩, hbk⟩
       · have := walk fs.toList 0 0 (fun j f hj => by simpa using hj) hco (by rw [hlc, ← hsum]; simp)
         simpa using this
       · have hi : i < fs.size := (Array.getElem?_eq_some_iff.1 hfi).1
         rw [List.getElem?_map, List.getElem?_range' hi] at hpi
         simp at hpi
         subst hpi
         exact (hpf' i f hfi).2.1
     | array m e =>
       simp only [Bool.and_eq_true, beq_iff_eq] at hp
       obtain ⟨hsum, hpe⟩ := hp
       obtain ⟨ys, n, _, hx, hlc, hyl, hf⟩ := DataW.trod_array hu h
       have hd : d = .agg (ys.map (·.1)) := congrArg Prod.fst hx
       subst hd
       simp only [DataW.weights, hu] at hw
       have key : ∀ i : Nat, ∃ r : List D, i < m → D2 W (fun b => b < W.heap.size) r ((cs.drop (i * P.cellsOf e)).take (P.cellsOf e)) ∧ Bf P g e r ∧ (EM B → CR r ≤ ((ys[i]?).map fun y => B y.1).getD 0) := fun i => by
        by_cases hi : i < m
        · have hil : i < ys.length := by omega
          have hyi : ys[i]? = some ys[i] := List.getElem?_eq_getElem hil
          have htr := hf i hi
          rw [hyi] at htr
          obtain ⟨r, h1, h2, h3⟩ := PQ B g n e _ (ys[i]).1 (ys[i]).2 htr hpe fun x hx' => hw x (Ek (List.mem_map.2 ⟨_, List.getElem_mem hil, rfl⟩) x hx')
          exact ⟨r, fun _ => ⟨h1, h2, fun hB => by rw [hyi]; exact h3 hB⟩⟩
        · exact ⟨[], fun h => absurd h hi⟩
       let pf : Nat → List D := fun i => Classical.choose (key i)
       have hpf' : ∀ i : Nat, i < m → D2 W (fun b => b < W.heap.size) (pf i) ((cs.drop (i * P.cellsOf e)).take (P.cellsOf e)) ∧ Bf P g e (pf i) ∧ (EM B → CR (pf i) ≤ ((ys[i]?).map fun y => B y.1).getD 0) := fun i => Classical.choose_spec (key i)
       have walk : ∀ (k i : Nat), i + k = m → D2 W (fun b => b < W.heap.size) ((List.range' i k).map pf).flatten (cs.drop (i * P.cellsOf e)) := by
        intro k
        induction k with
        | zero =>
          intro i hi
          have : cs.length ≤ i * P.cellsOf e := by rw [hlc, hsum, show i = m by omega]; exact Nat.le_refl _
          rw [List.drop_of_length_le this]; simp [D2]
        | succ k ih =>
          intro i hi
          have h0 := (hpf' i (by omega)).1
          have h1 := ih (i + 1) (by omega)
          rw [Nat.succ_mul] at h1
          rw [List.range'_succ, List.map_cons, List.flatten_cons]
          have e : cs.drop (i * P.cellsOf e) = (cs.drop (i * P.cellsOf e)).take (P.cellsOf e) ++ cs.drop (i * P.cellsOf e + P.cellsOf e) := by
           rw [← List.drop_drop, List.take_append_drop]
          rw [e]
          exact h0.append h1
       have hbk : EM B → CR ((List.range' 0 m).map pf).flatten ≤ B (.agg (ys.map (·.1))) := fun hB => by
        have h1 := JB (f := pf) (g := fun i => ((ys[i]?).map fun y => B y.1).getD 0) (l := List.range' 0 m) fun i hi => by
         have hi : i < m := by simpa using hi
         exact (hpf' i hi).2.2 hB
        have h2 := hB.agg (ys.map (·.1))
        rw [List.map_map] at h2
        have e : (List.range' 0 m).map (fun i => ((ys[i]?).map fun y => B y.1).getD 0) = ys.map (B ∘ (·.1)) := by
         apply List.ext_getElem
         · simp [hyl]
         · intro i h1 h2
           have hi : i < ys.length := by simpa using h2
           simp [List.getElem?_eq_getElem hi]
        rw [e] at h1
        rw [Fk]
        omega
       refine ⟨((List.range' 0 m).map pf).flatten, ?_, ⟨(List.range' 0 m).map pf, rfl, by simp, fun p hp => ?_⟩, hbk⟩
       · have := walk m 0 (by omega)
         rwa [Nat.zero_mul, List.drop_zero] at this
       · obtain ⟨i, hi, rfl⟩ := List.mem_map.1 hp
         exact (hpf' i (by simpa using hi)).2.1
     | _ => simp at hp

def Cu (P : Program) (t : TypeId) : Bool := match P.underlying t with | some (.struct _) | some (.array _ _) => true | _ => false
def bw : List D → AV
 | [x] => x.av
 | _ => .any
def JP (b : Bool) (xs : List D) : AV := if b then .agg (xs.map D.av) else bw xs

theorem al {P : Program} {W : World} {I : Nat → Prop} {g base : Nat} {t : TypeId} {xs : List D} {v : Value} (hc : Bf P g t xs) (hr : D2 W I xs v.cells.toList) (ho : Value.okWide P W .any base t v) : AV.rel W I (JP (Cu P t) xs) v := by
 cases g with
 | zero => exact hc.elim
 | succ g =>
   unfold Bf at hc
   unfold JP Cu
   have one : ∀ {x : D}, xs = [x] → v.oneCell' = true → AV.rel W I (bw xs) v := fun hx hv => by
    subst hx
    rw [cells_one hv] at hr
    exact D.av_rel hr.1
   cases hu : P.underlying t with
   | none => rw [hu] at hc; exact hc.elim
   | some td =>
     rw [hu] at hc
     cases td with
     | bool => obtain ⟨b, hx⟩ := hc; obtain ⟨_, rfl⟩ := WideShapes.okWide_bool hu ho; simp only [Bool.false_eq_true, if_false]; exact one hx rfl
     | int k => obtain ⟨n, hx, _⟩ := hc; obtain ⟨_, rfl⟩ := WideShapes.okWide_int hu ho; simp only [Bool.false_eq_true, if_false]; exact one hx rfl
     | string => obtain ⟨s, hx, _⟩ := hc; obtain ⟨_, rfl⟩ := WideShapes.okWide_string hu ho; simp only [Bool.false_eq_true, if_false]; exact one hx rfl
     | slice e => obtain ⟨rows, hx, _⟩ := hc; obtain ⟨_, _, _, rfl⟩ := WideShapes.okWide_slice hu ho; simp only [Bool.false_eq_true, if_false]; exact one hx rfl
     | struct fs =>
       unfold Value.okWide at ho
       rw [hu] at ho
       obtain ⟨cs, rfl, _, _⟩ := ho
       simp only [if_true]
       exact ⟨cs.toList, by simp, hr.av⟩
     | array n e =>
       unfold Value.okWide at ho
       rw [hu] at ho
       obtain ⟨cs, rfl, _, _⟩ := ho
       simp only [if_true]
       exact ⟨cs.toList, by simp, hr.av⟩
     | _ => exact hc.elim

section
open Go.RowKit Go.WideShapes Go.ChangeShapes
variable {H : Type} {enc : TypeId × Value → H} {P : Program}
theorem Mh {f : Func} {s : ChangeSpec} {apart fresh handsOn again : Bool} {W W' : World} {args : Array Value} {v : Value} {ds gs : List (DataW H)} {before pa pv : List MemPlace}
 (hW : DataW.Whole enc P f.params.toList s.vars apart W args.toList ds gs before)
 (hres : ∀ (b : Nat) (sp : Nat → Bool) (hd : Bool), DataW.TrodAll enc P W' b sp hd f.resultTypes.toList (v.resultList f.resultTypes.size) (s.fn H (ds ++ gs)).results [])
 (hargs : ∀ sp : Nat → Bool, (∀ p ∈ before, sp p.block = true) → DataW.TrodAll enc P W' 0 sp true f.params.toList args.toList (s.fn H (ds ++ gs)).args pa)
 (hvars : ∀ sp : Nat → Bool, (∀ p ∈ before, sp p.block = true) → DataW.TrodVars enc P W' sp s.vars (s.fn H (ds ++ gs)).vars pv)
 (hps : before = pa ++ pv) (hb : Below W.heap.size W W')
 (hok : ∀ (j : Nat) (t : TypeId) (r : Value), f.resultTypes[j]? = some t → (v.resultList f.resultTypes.size)[j]? = some r → Value.okWide P W' .any 0 t r) :
 s.post enc P f apart fresh handsOn again W args v W' := by
 have hlt : ∀ p ∈ before, p.block < W.heap.size := fun p hp => hW.lt p hp
 have hold : ∀ p ∈ before, (fun b => decide (b < W.heap.size)) p.block = true := fun p hp => by simpa using hlt p hp
 refine ⟨ds, gs, before, [], pa, pv, hW, hres _ _ _, hargs _ hold, hvars _ hold, World.keptBut_mono (fun p hp => ⟨hp, ?_⟩) (hb.frame (· ∈ before)), fun _ => ?_⟩
 · rw [hps, List.mem_append] at hp
   exact Or.inr hp
 · obtain ⟨_, _, _, _, _, hz, hn⟩ := hW
   refine ⟨hok, _, _, ([] ++ pa) ++ pv, ⟨[] ++ pa, pv, trodAll_append (hargs _ (fun _ _ => rfl)) (hres _ _ _), hvars _ (fun _ _ => rfl), rfl, ?_, ?_⟩, ?_⟩
   · intro b off hp
     have hin : MemPlace.cell b off ∈ before := by rw [hps]; simpa using hp
     rw [hb.frozen (hlt _ hin)]
     exact hz b off hin
   · intro ha
     have := hn ha
     rw [hps] at this
     simpa using this
   · intro p hp _
     rw [hps]
     simpa using hp

theorem IC (hl : laidOutB P = true) {W W' : World} : ∀ {ts : List TypeId} {vs : List Value} {ds : List (DataW H)} {ps : List MemPlace}, (∀ t ∈ ts, P.readableRec t = true ∧ t < P.types.size) → DataW.TrodAll enc P W 0 (fun _ => true) true ts vs ds ps → (∀ p ∈ ps, W.sameAt W' p) →
 ∀ sp : Nat → Bool, (∀ p ∈ ps, sp p.block = true) → DataW.TrodAll enc P W' 0 sp true ts vs ds ps
 | [], [], [], _, _, h, _, _, _ => h
 | t :: ts, v :: vs, d :: ds, ps, ht, ⟨p, q, h1, h2, e⟩, hs, sp, hsp => by
   subst e
   exact ⟨p, q, WideElems.Trod_stays hl (ht t (by simp)).1 (ht t (by simp)).2 h1 (fun x hx => hs x (by simp [hx])) (fun x hx => hsp x (by simp [hx])),
    IC hl (fun t ht' => ht t (by simp [ht'])) h2 (fun x hx => hs x (by simp [hx])) sp (fun x hx => hsp x (by simp [hx])), rfl⟩

theorem Nq {W : World} {base g : Nat} (B : DataW H → Nat) : ∀ {ts : List TypeId} {vs : List Value} {ds : List (DataW H)} {ps : List MemPlace}, (∀ t ∈ ts, Dp P g t = true) → DataW.TrodAll enc P W 0 (fun _ => true) true ts vs ds ps →
 (∀ (j : Nat) t v, ts[j]? = some t → vs[j]? = some v → Value.okWide P W .any base t v) → (∀ x ∈ DataW.weightsEach P ts ds, x ≤ reachBytes) →
 ∃ xss : List (List D), xss.length = ts.length ∧ (∀ (j : Nat) t xs, ts[j]? = some t → xss[j]? = some xs → Bf P g t xs) ∧ AV.rels W (fun b => b < W.heap.size) ((ts.zip xss).map fun p => JP (Cu P p.1) p.2) vs ∧ (EM B → GC xss ≤ (ds.map B).sum)
 | [], [], [], _, _, _, _, _ => ⟨[], rfl, by simp, trivial, fun _ => by simp [GC]⟩
 | t :: ts, v :: vs, d :: ds, _, hp, ⟨p, q, ⟨fuel, h1⟩, h2, _⟩, hv, hw => by
   simp only [DataW.weightsEach, List.mem_append] at hw
   obtain ⟨xs, r1, r2, r3⟩ := PQ B g fuel t v.cells.toList d p h1 (hp t (by simp)) fun x hx => hw x (.inl hx)
   obtain ⟨xss, i1, i2, i3, i4⟩ := Nq B (fun t ht => hp t (by simp [ht])) h2 (fun j t v h1 h2 => hv (j + 1) t v (by simpa using h1) (by simpa using h2)) fun x hx => hw x (.inr hx)
   refine ⟨xs :: xss, by simp [i1], fun j t' xs' h1 h2 => ?_, ⟨al r2 r1 (hv 0 t v rfl rfl), i3⟩, fun hB => by
    have := r3 hB
    have := i4 hB
    simp only [GC, List.map_cons, List.sum_cons]
    omega⟩
   cases j with
   | zero => simp at h1 h2; subst h1; subst h2; exact r2
   | succ j => exact i2 j t' xs' (by simpa using h1) (by simpa using h2)

theorem Z7 {f : FuncId} {fn : Func} {s : ChangeSpec} {G : List (Nat × List D)} {g : Nat} {tb : TypeId} {W : World} {base : Nat} {args : Array Value} {ds gs : List (DataW H)} {before : List MemPlace}
 (hl : laidOutB P = true) (hpar : ∀ t ∈ fn.params.toList, Dp P g t = true ∧ P.readableRec t = true ∧ t < P.types.size) (hres : fn.resultTypes = #[tb]) (htb : P.underlying tb = some .bool) (hvars : s.vars = [])
 (hspec : ∀ ds : List (DataW H), ds.length = fn.params.toList.length → (s.fn H (ds ++ [])).results = [.lit (.bool true)] ∧ (s.fn H (ds ++ [])).args = ds ∧ (s.fn H (ds ++ [])).vars = [])
 (B : DataW H → Nat)
 (hac : ∀ xss : List (List D), xss.length = fn.params.toList.length → (∀ (j : Nat) t xs, fn.params.toList[j]? = some t → xss[j]? = some xs → Bf P g t xs) → (EM B → GC xss ≤ (ds.map B).sum) → ACr P G f ((fn.params.toList.zip xss).map fun p => JP (Cu P p.1) p.2) (.bool true))
 (hG : ∀ q ∈ G, PD W (fun b => b < W.heap.size) q.2 ⟨q.1, 0, none⟩)
 (hval : ∀ (j : Nat) t v, fn.params[j]? = some t → args[j]? = some v → Value.okWide P W .any base t v)
 (hW : DataW.Whole enc P fn.params.toList s.vars false W args.toList ds gs before)
 (hsize : (DataW.weightsEach P fn.params.toList ds).all (· ≤ reachBytes) = true) :
 Calls P f args W fun e W' => ∃ v, e = .returned v ∧ s.post enc P fn false true false false W args v W' := by
 have hW' := hW
 obtain ⟨p, q, hA, hV, rfl, hfz, hnd⟩ := hW
 rw [hvars] at hV
 obtain ⟨rfl, rfl⟩ : gs = [] ∧ q = [] := by cases gs <;> simp_all [DataW.TrodVars]
 obtain ⟨xss, x1, x2, x3, x4⟩ := Nq B (g := g) (base := base) (fun t ht => (hpar t ht).1) hA (fun j t v h1 h2 => hval j t v (by simpa using h1) (by simpa using h2)) (fun x hx => by simpa using List.all_eq_true.1 hsize x hx)
 have hcall := hac xss x1 x2 x4 (fun b => b < W.heap.size) W args.toList (by simp) (by simp [blks]) (fun b hb => ⟨hb, by simp [blks]⟩) hG x3
 rw [Array.toArray_toList] at hcall
 refine hcall.mono fun e W' hpost => ?_
 obtain ⟨r, h', I', ⟨rfl, rfl⟩, hok, hrel⟩ := hpost
 cases e with
 | panicked ch => exact hrel.elim
 | outgrown => exact hrel.elim
 | returned v =>
   have hv : v = .bool true := hrel
   subst hv
   refine ⟨_, rfl, ?_⟩
   have hb : Below W.heap.size W W' := ⟨hok.os, hok.tape, hok.output, hok.size, fun k hk => hok.keep k hk (by simp [blks])⟩
   have hdl : ds.length = fn.params.toList.length := by
    have : ∀ {ts : List TypeId} {vs : List Value} {ds : List (DataW H)} {ps : List MemPlace}, DataW.TrodAll enc P W 0 (fun _ => true) true ts vs ds ps → ds.length = ts.length := by
     intro ts
     induction ts with
     | nil => intro vs ds ps h; cases vs <;> cases ds <;> simp_all [DataW.TrodAll]
     | cons t ts ih =>
       intro vs ds ps h
       cases vs with
       | nil => cases h
       | cons v vs =>
         cases ds with
         | nil => cases h
         | cons d ds => obtain ⟨_, _, _, h2, _⟩ := h; simp [ih h2]
    exact this hA
   obtain ⟨e1, e2, e3⟩ := hspec ds hdl
   refine Mh (pa := p) (pv := []) hW' (fun b sp hd => ?_) (fun sp hsp => ?_) (fun sp _ => ?_) rfl hb ?_
   · rw [e1, hres]
     simp only [Value.resultList, List.size_toArray, List.length_cons, List.length_nil, if_true]
     exact trodAll_mk1 (shut_bool htb true)
   · rw [e2]
     exact IC hl (fun t ht => (hpar t ht).2) hA (fun x hx => hb.same (hW'.lt x (by simp [hx]))) sp (fun x hx => hsp x (by simp [hx]))
   · rw [hvars, e3]; rfl
   · exact ok_one hres rfl (okWide_bool_mk htb true)
theorem OK {f : FuncId} {fn : Func} {s : ChangeSpec} {G : List (Nat × List D)} {g : Nat} {tb : TypeId} {W : World} {base : Nat} {args : Array Value} {ds gs : List (DataW H)} {before : List MemPlace}
 (hl : laidOutB P = true) (hpar : ∀ t ∈ fn.params.toList, Dp P g t = true ∧ P.readableRec t = true ∧ t < P.types.size) (hres : fn.resultTypes = #[tb]) (htb : P.underlying tb = some .bool) (hvars : s.vars = [])
 (hspec : ∀ ds : List (DataW H), ds.length = fn.params.toList.length → (s.fn H (ds ++ [])).results = [.lit (.bool true)] ∧ (s.fn H (ds ++ [])).args = ds ∧ (s.fn H (ds ++ [])).vars = [])
 (hac : ∀ xss : List (List D), xss.length = fn.params.toList.length → (∀ (j : Nat) t xs, fn.params.toList[j]? = some t → xss[j]? = some xs → Bf P g t xs) → ACr P G f ((fn.params.toList.zip xss).map fun p => JP (Cu P p.1) p.2) (.bool true))
 (hG : ∀ q ∈ G, PD W (fun b => b < W.heap.size) q.2 ⟨q.1, 0, none⟩)
 (hval : ∀ (j : Nat) t v, fn.params[j]? = some t → args[j]? = some v → Value.okWide P W .any base t v)
 (hW : DataW.Whole enc P fn.params.toList s.vars false W args.toList ds gs before)
 (hsize : (DataW.weightsEach P fn.params.toList ds).all (· ≤ reachBytes) = true) :
 Calls P f args W fun e W' => ∃ v, e = .returned v ∧ s.post enc P fn false true false false W args v W' :=
 Z7 hl hpar hres htb hvars hspec (fun _ => 0) (fun xss h1 h2 _ => hac xss h1 h2) hG hval hW hsize
end

theorem Ot {P : Program} {g : Nat} {t : TypeId} {xs : List D} (hu : P.underlying t = some .bool) (h : Bf P (g + 1) t xs) : ∃ b, xs = [.b b] := by unfold Bf at h; rw [hu] at h; exact h
theorem Rb {P : Program} {g : Nat} {t : TypeId} {k : IntKind} {xs : List D} (hu : P.underlying t = some (.int k)) (h : Bf P (g + 1) t xs) : ∃ n, xs = [.i k n] ∧ (Lit.int k n).wf = true := by unfold Bf at h; rw [hu] at h; exact h
theorem Qy {α : Type} {f : α → List D} : ∀ {rows : List (List D)}, (∀ r ∈ rows, ∃ a, r = f a) → ∃ l : List α, rows = l.map f
 | [], _ => ⟨[], rfl⟩
 | r :: rows, h => by
   obtain ⟨a, rfl⟩ := h r (by simp)
   obtain ⟨l, rfl⟩ := Qy (rows := rows) fun r hr => h r (by simp [hr])
   exact ⟨a :: l, rfl⟩
theorem Fg {P : Program} {g : Nat} {t e : TypeId} {sz eb : Nat} {xs : List D} {α : Type} {f : α → List D} (hu : P.underlying t = some (.slice e)) (hc : P.cellsOf e = sz) (hb : P.bytesOf e = eb) (hf : ∀ r, Bf P g e r → ∃ a, r = f a) (h : Bf P (g + 1) t xs) : ∃ l : List α, xs = [.l sz eb (l.map f)] ∧ l.length * eb ≤ 140737488351232 := by
 unfold Bf at h
 rw [hu] at h
 obtain ⟨rows, rfl, h1, h2⟩ := h
 obtain ⟨l, rfl⟩ := Qy fun r hr => hf r (h1 r hr)
 exact ⟨l, by rw [hc, hb], by rw [← hb]; simpa using h2⟩
theorem Gi {P : Program} {g : Nat} {t : TypeId} {f0 f1 : Field} {xs : List D} (hu : P.underlying t = some (.struct #[f0, f1])) (h : Bf P (g + 1) t xs) : ∃ p0 p1, xs = p0 ++ p1 ∧ Bf P g f0.type p0 ∧ Bf P g f1.type p1 := by
 unfold Bf at h
 rw [hu] at h
 obtain ⟨parts, rfl, hl, hp⟩ := h
 match parts, hl with
 | [p0, p1], _ => exact ⟨p0, p1, by simp, hp 0 f0 p0 rfl rfl, hp 1 f1 p1 rfl rfl⟩
theorem Gh {P : Program} {g : Nat} {t : TypeId} {f0 f1 f2 f3 : Field} {xs : List D} (hu : P.underlying t = some (.struct #[f0, f1, f2, f3])) (h : Bf P (g + 1) t xs) : ∃ p0 p1 p2 p3, xs = p0 ++ (p1 ++ (p2 ++ p3)) ∧ Bf P g f0.type p0 ∧ Bf P g f1.type p1 ∧ Bf P g f2.type p2 ∧ Bf P g f3.type p3 := by
 unfold Bf at h
 rw [hu] at h
 obtain ⟨parts, rfl, hl, hp⟩ := h
 match parts, hl with
 | [p0, p1, p2, p3], _ => exact ⟨p0, p1, p2, p3, by simp, hp 0 f0 p0 rfl rfl, hp 1 f1 p1 rfl rfl, hp 2 f2 p2 rfl rfl, hp 3 f3 p3 rfl rfl⟩
theorem Mc {P : Program} {g : Nat} {t e : TypeId} {xs : List D} (hu : P.underlying t = some (.array 2 e)) (h : Bf P (g + 1) t xs) : ∃ p0 p1, xs = p0 ++ p1 ∧ Bf P g e p0 ∧ Bf P g e p1 := by
 unfold Bf at h
 rw [hu] at h
 obtain ⟨parts, rfl, hl, hp⟩ := h
 match parts, hl with
 | [p0, p1], _ => exact ⟨p0, p1, by simp, hp p0 (by simp), hp p1 (by simp)⟩
end Go.Av
namespace Go.Proofs.YtnlfhnbcdfdhgaaGreatDoor
open Go Go.Av Go.Sp
theorem C7 {g : Nat} {xs : List D} (h : Bf Tryz.prog (g + 1) 3 xs) : ∃ n, xs = [.i .i64 n] ∧ AX n := by
 obtain ⟨n, h, hw⟩ := Rb Tryz.underlying3 h
 exact ⟨n, h, by simpa [Lit.wf, IntKind.min, IntKind.max, IntKind.signed, IntKind.bits, AX] using hw⟩
theorem VY {g : Nat} {xs : List D} (h : Bf Tryz.prog (g + 1) 4 xs) : ∃ b, xs = [.b b] := Ot Tryz.underlying4 h
end Go.Proofs.YtnlfhnbcdfdhgaaGreatDoor
