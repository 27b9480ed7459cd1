/- Own texts. -/
import Derived.Test.YtnlfhnbcdfdhgaaGreatDoorA11
set_option linter.unusedVariables false
set_option linter.unusedSimpArgs false
set_option maxRecDepth 100000
set_option maxHeartbeats 4000000
namespace Go.Sp
open Go Go.Av
abbrev SD (a : Int) : Prop := a = 0 ∨ a = 1
def dz (k v : Int) (env S base : List Int) (n : Int) : Prop :=
 (S = base ∧ ((k = 1 ∧ n = v ∧ AU v) ∨ (k = 11 ∧ n = 1) ∨ (k = 12 ∧ n = 0))) ∨ (S = base ∧ k = 2 ∧ 0 ≤ v ∧ ∃ h : v.toNat < env.length, n = env[v.toNat]) ∨ (k = 10 ∧ ∃ a, S = base ++ [a] ∧ SD a ∧ n = 1 - a) ∨
 (∃ a b, S = base ++ [b] ++ [a] ∧ AU a ∧ AU b ∧ ((k = 3 ∧ n = a + b) ∨ (k = 4 ∧ n = a - b) ∨ (k = 5 ∧ n = a * b) ∨ (k = 6 ∧ n = if decide (a = b) = true then 1 else 0) ∨ (k = 7 ∧ n = if decide (a < b) = true then 1 else 0) ∨ (k = 8 ∧ SD a ∧ SD b ∧ n = bits .and .i64 a b) ∨ (k = 9 ∧ SD a ∧ SD b ∧ n = bits .or .i64 a b)))
theorem b8 {k : Int} (h : 1 ≤ k ∧ k ≤ 12) (hp : (partsOf k).1 = 0) : k = 1 ∨ k = 2 ∨ k = 11 ∨ k = 12 := by
 unfold partsOf at hp
 split at hp
 · omega
 split at hp
 · exact absurd hp (by decide)
 split at hp
 · exact absurd hp (by decide)
 · omega
theorem cz {k : Int} (h : 1 ≤ k ∧ k ≤ 12) (hp : (partsOf k).1 = 1) : k = 10 := by
 unfold partsOf at hp
 split at hp
 · exact absurd hp (by decide)
 split at hp
 · omega
 split at hp
 · exact absurd hp (by decide)
 · exact absurd hp (by decide)
theorem dZ {k : Int} (h : 1 ≤ k ∧ k ≤ 12) (hp : (partsOf k).1 = 2) : 3 ≤ k ∧ k ≤ 9 := by
 unfold partsOf at hp
 split at hp
 · exact absurd hp (by decide)
 split at hp
 · exact absurd hp (by decide)
 split at hp
 · omega
 · exact absurd hp (by decide)
theorem Stk.len {l : List Fo} {f : Nat → Int} (hw : ∀ (i : Nat) (_ : i < l.length), (AM l i).2 = 0) {i : Nat} {S : List Int} (h : Stk l f i S) : i ≤ l.length → S.length + i ≤ l.length := by
 induction h with
 | nil h => intro hi; simpa using hi
 | @cons i S hi h ih =>
   intro _
   have hb := Ak l i (hw i hi)
   have := ih jB
   simp
   omega
abbrev evF (l : List Fo) (env : List Int) (i : Nat) : Int := (Bs l env i).getD 0
theorem Qr {l : List Fo} {env : List Int} {i : Nat} (h : (Bs l env i).isSome) : Bs l env i = some (evF l env i) := by
 obtain ⟨v, hv⟩ := Option.isSome_iff_exists.1 h
 rw [evF, hv]; rfl
theorem Stk.put {l : List Fo} {env : List Int} {m : Nat} {base : List Int} {n : Int} (hm : m < l.length) (hn : Bs l env m = some n) (hS : Stk l (evF l env) (AM l m).1.toNat base) : Stk l (evF l env) m (base ++ [n]) := by
 have : evF l env m = n := by rw [evF, hn]; rfl
 rw [← this]
 exact .cons hm hS
theorem Fs {n : Int} (h : AU n) : ovr n = some n := if_pos h
theorem HF {n : Int} (h : ¬ AU n) : ovr n = none := if_neg h
theorem Stk.step {l : List Fo} {env : List Int} (g : DC l env.length) (henv : ∀ v ∈ env, AU v) {m : Nat} (hm : m < l.length) {S : List Int} (hS : Stk l (evF l env) (m + 1) S) (hv : ∀ j, m < j → j < l.length → (Bs l env j).isSome) :
 ∃ base n, dz l[m].kind l[m].val env S base n ∧ (AU n → Bs l env m = some n ∧ Stk l (evF l env) m (base ++ [n])) ∧ (¬ AU n → Bs l env m = none) := by
 obtain ⟨k1, k2, k3, k4⟩ := g.kind hm
 have hkm := Aq l m hm
 have hvm := Ex l m hm
 have ev := H0 l env m hm
 unfold Lj at ev
 rw [hkm, hvm] at ev
 -- what a value and where the stack stands behind it come to
 have fin : ∀ base n, Bs l env m = ovr n → Stk l (evF l env) (AM l m).1.toNat base → (AU n → Bs l env m = some n ∧ Stk l (evF l env) m (base ++ [n])) ∧ (¬ AU n → Bs l env m = none) := fun base n h hb =>
  ⟨fun hl => ⟨by rw [h, Fs hl], Stk.put hm (by rw [h, Fs hl]) hb⟩, fun hl => by rw [h, HF hl]⟩
 rcases g.parts hm with ⟨n0, e0⟩ | ⟨n1, p1, e1⟩ | ⟨n2, p1, p2, p3, p4, e2⟩
 · rw [n0] at ev
   have ev' : Bs l env m = ovr (opV l[m].kind l[m].val env 0 0) := ev
   have hS' : Stk l (evF l env) (AM l m).1.toNat S := by rw [e0, show ((m : Int) + 1).toNat = m + 1 by omega]; exact hS
   have hk := b8 ⟨k1, k2⟩ (by rw [← hkm]; exact n0)
   rcases hk with h | h | h | h
   · refine ⟨S, l[m].val, .inl ⟨rfl, .inl ⟨h, rfl, by have := k3 h; unfold AU; omega⟩⟩, fin S _ (by rw [ev', h]; rfl) hS'⟩
   · have := k4 h
     have hlt : l[m].val.toNat < env.length := by omega
     refine ⟨S, env[l[m].val.toNat], .inr (.inl ⟨rfl, h, this.1, hlt, rfl⟩), fin S _ (by rw [ev', h]; simp [opV, hlt]) hS'⟩
   · refine ⟨S, 1, .inl ⟨rfl, .inr (.inl ⟨h, rfl⟩)⟩, fin S _ (by rw [ev', h]; rfl) hS'⟩
   · refine ⟨S, 0, .inl ⟨rfl, .inr (.inr ⟨h, rfl⟩)⟩, fin S _ (by rw [ev', h]; rfl) hS'⟩
 · rw [n1] at ev
   obtain ⟨S', rfl, hS'⟩ := hS.inv p1
   have ha := Qr (hv (m + 1) jB p1)
   rw [ha] at ev
   have ev' : Bs l env m = ovr (opV l[m].kind l[m].val env (evF l env (m + 1)) 0) := ev
   have hk := cz ⟨k1, k2⟩ (by rw [← hkm]; exact n1)
   have hty := g.typed m hm (m + 1) (by
    rw [show (partsOf (Ag l m)).1 = 1 from n1]; simp [C6])
   have hb : SD (evF l env (m + 1)) := QA p1 (hty.2 (by rw [hkm, hk]; decide)) ha
   generalize evF l env (m + 1) = a at *
   refine ⟨S', 1 - a, .inr (.inr (.inl ⟨hk, a, rfl, hb, rfl⟩)), fin S' _ ?_ (by rw [e1]; exact hS')⟩
   rw [ev', hk]
   rcases hb with rfl | rfl <;> rfl
 · rw [n2] at ev
   obtain ⟨S', rfl, hS'⟩ := hS.inv p1
   rw [p4, Int.toNat_natCast] at hS'
   obtain ⟨S'', rfl, hS''⟩ := hS'.inv p3
   have ha := Qr (hv (m + 1) jB p1)
   have hb := Qr (hv (second l m) jB p3)
   rw [ha, if_pos (show m < second l m by omega), hb] at ev
   have ev' : Bs l env m = ovr (opV l[m].kind l[m].val env (evF l env (m + 1)) (evF l env (second l m))) := ev
   have hk := dZ ⟨k1, k2⟩ (by rw [← hkm]; exact n2)
   have la := Jq p1 ha
   have lb := Jq p3 hb
   have ty1 := g.typed m hm (m + 1) (by rw [show (partsOf (Ag l m)).1 = 2 from n2]; simp [C6])
   have ty2 := g.typed m hm (second l m) (by rw [show (partsOf (Ag l m)).1 = 2 from n2]; simp [C6, second])
   have bt : GB l[m].kind → SD (evF l env (m + 1)) ∧ SD (evF l env (second l m)) := fun ht =>
    ⟨QA p1 (ty1.2 (by rw [hkm]; exact ht)) ha, QA p3 (ty2.2 (by rw [hkm]; exact ht)) hb⟩
   rw [← e2] at hS''
   generalize evF l env (m + 1) = a at *
   generalize evF l env (second l m) = b at *
   have : l[m].kind = 3 ∨ l[m].kind = 4 ∨ l[m].kind = 5 ∨ l[m].kind = 6 ∨ l[m].kind = 7 ∨ l[m].kind = 8 ∨ l[m].kind = 9 := by omega
   rcases this with h | h | h | h | h | h | h
   · exact ⟨S'', a + b, .inr (.inr (.inr ⟨a, b, rfl, la, lb, .inl ⟨h, rfl⟩⟩)), fin S'' _ (by rw [ev', h]; rfl) hS''⟩
   · exact ⟨S'', a - b, .inr (.inr (.inr ⟨a, b, rfl, la, lb, .inr (.inl ⟨h, rfl⟩)⟩)), fin S'' _ (by rw [ev', h]; rfl) hS''⟩
   · exact ⟨S'', a * b, .inr (.inr (.inr ⟨a, b, rfl, la, lb, .inr (.inr (.inl ⟨h, rfl⟩))⟩)), fin S'' _ (by rw [ev', h]; rfl) hS''⟩
   · exact ⟨S'', _, .inr (.inr (.inr ⟨a, b, rfl, la, lb, .inr (.inr (.inr (.inl ⟨h, rfl⟩)))⟩)), fin S'' _ (by rw [ev', h]; simp [opV]) hS''⟩
   · exact ⟨S'', _, .inr (.inr (.inr ⟨a, b, rfl, la, lb, .inr (.inr (.inr (.inr (.inl ⟨h, rfl⟩))))⟩)), fin S'' _ (by rw [ev', h]; simp [opV]) hS''⟩
   · obtain ⟨b1, b2⟩ := bt jB
     refine ⟨S'', bits .and .i64 a b, .inr (.inr (.inr ⟨a, b, rfl, la, lb, .inr (.inr (.inr (.inr (.inr (.inl ⟨h, b1, b2, rfl⟩)))))⟩)), fin S'' _ ?_ hS''⟩
     rw [ev', h]
     rcases b1 with rfl | rfl <;> rcases b2 with rfl | rfl <;> rfl
   · obtain ⟨b1, b2⟩ := bt jB
     refine ⟨S'', bits .or .i64 a b, .inr (.inr (.inr ⟨a, b, rfl, la, lb, .inr (.inr (.inr (.inr (.inr (.inr ⟨h, b1, b2, rfl⟩)))))⟩)), fin S'' _ ?_ hS''⟩
     rw [ev', h]
     rcases b1 with rfl | rfl <;> rcases b2 with rfl | rfl <;> rfl
theorem gQ {l : List Fo} {env : List Int} {vars : Int} (g : DC l vars) : ∀ (m i : Nat), i < l.length → (AM l i).1 ≤ ((i + m : Nat) : Int) → (Bs l env i).isSome → ∀ j, i ≤ j → (j : Int) < (AM l i).1 → (Bs l env j).isSome := by
 intro m
 induction m using Nat.strongRecOn with
 | _ m ih =>
 intro i hi hm hs j h1 h2
 by_cases e : j = i
 · subst e; exact hs
 have ev := H0 l env i hi
 unfold Lj at ev
 have hb := Ak l i (g.well i hi)
 rcases g.parts hi with ⟨n0, e0⟩ | ⟨n1, p1, e1⟩ | ⟨n2, p1, p2, p3, p4, e2⟩
 · omega
 · rw [n1] at ev
   have h3 : (Bs l env (i + 1)).isSome := by
    cases hx : Bs l env (i + 1) with
    | some v => rfl
    | none => rw [hx] at ev; rw [ev] at hs; exact absurd hs (by simp)
   exact ih (m - 1) jB (i + 1) p1 jB h3 j jB jB
 · rw [n2, if_pos (show i < second l i by omega)] at ev
   have hb1 := Ak l (i + 1) (g.well _ p1)
   have hb2 := Ak l (second l i) (g.well _ p3)
   have h3 : (Bs l env (i + 1)).isSome ∧ (Bs l env (second l i)).isSome := by
    cases hx : Bs l env (i + 1) with
    | none => rw [hx] at ev; rw [ev] at hs; exact absurd hs (by simp)
    | some v =>
      cases hy : Bs l env (second l i) with
      | some w => exact ⟨rfl, rfl⟩
      | none => rw [hx, hy] at ev; rw [ev] at hs; exact absurd hs (by simp)
   by_cases c : j < second l i
   · exact ih (m - 1) jB (i + 1) p1 jB h3.1 j jB jB
   · exact ih (m - (second l i - i)) jB (second l i) p3 jB h3.2 j jB jB
end Go.Sp
namespace Go.Proofs.YtnlfhnbcdfdhgaaGreatDoor
open Go Go.Av Go.Sp
theorem FA : Cal Tryz.prog 83 := Cal.of Tryz.func83 (by kernel_rfl) (by kernel_rfl)
theorem Pu : Cal Tryz.prog 134 := Cal.of Tryz.func134 (by kernel_rfl) (by kernel_rfl)
theorem VN (p q : Addr) (w : World) :
 CallsD Tryz.prog 134 #[.pointer (some p), .pointer (some q)] .returning w fun e u' w' => e = .returned (.tuple #[]) ∧ u' = .returning ∧ w' = w := by
 refine callsD_of_wpS Tryz.func134 rfl fun c₀ cs hu => ?_
 apply wpS_seq
 apply wpS_region
 simp [wpOpsS, go_sem, recoverD, hu, Tryz.ntmps134, Exit.thenS]
 apply wpS_seq
 apply wpS_region
 simp [wpOpsS, go_sem, Exit.thenS]
 refine wpS_cond (t := false) (by simp [Act.eval, Array.replicate]) ?_
 simp only [Bool.false_eq_true, if_false]
 refine wpS_of_wp (wp_skip ?_)
 cases c₀
 simp_all [bodyPostS, results, Tryz.results134]
theorem Xu (b c : Nat) (hbc : b ≠ c) (x y : Value) (n : Int) (w : World) (hb : w.heap[b]? = some (.cells #[x] 3 (0, 0))) (hc : w.heap[c]? = some (.cells #[y] 34 (0, 0))) :
 CallsD Tryz.prog 134 #[.pointer (some ⟨b, 0, none⟩), .pointer (some ⟨c, 0, none⟩)] (.panicking [{ v := .iface 34 (.int .i64 n), recovered := false }]) w fun e u' w' =>
  e = .returned (.tuple #[]) ∧ u' = .panicking [{ v := .iface 34 (.int .i64 n), recovered := true }] ∧ w' = ((w.setCell ⟨b, 0, none⟩ (.int .i64 0)).setCell ⟨c, 0, none⟩ (.int .i64 n)).drew := by
 refine callsD_of_wpS Tryz.func134 rfl fun c₀ cs hu => ?_
 apply wpS_seq
 apply wpS_region
 simp [wpOpsS, go_sem, recoverD, hu, Tryz.ntmps134, Exit.thenS]
 apply wpS_seq
 apply wpS_region
 simp [wpOpsS, go_sem, Exit.thenS]
 refine wpS_cond (t := true) (by simp [Act.eval, Array.replicate]) ?_
 simp only [if_true]
 refine wpS_of_wp ?_
 have hcb : w.cell? ⟨b, 0, none⟩ = some x := by rw [cell_of_row w b 0 _ _ _ hb]; rfl
 have hcc : w.cell? ⟨c, 0, none⟩ = some y := by rw [cell_of_row w c 0 _ _ _ hc]; rfl
 have fb : w.frozen? ⟨b, 0, none⟩ = false := by simp [World.frozen?, hb]
 have fc : w.frozen? ⟨c, 0, none⟩ = false := by simp [World.frozen?, hc]
 have hta : ∀ w : World, (Instr.typeAssert (.iface 34 (.int .i64 n)) 20 34 false).run Tryz.prog w = .ok (.int .i64 n) w := fun w => by
  simp [Instr.typeAssert, run_underlying Tryz.underlying34]
 go_region
 all_goals
  cases c₀
  simp_all [bodyPostS, results, Tryz.results134]
theorem OX (p q : Addr) (h : H) : CD Tryz.prog 134 #[.pointer (some p), .pointer (some q)] .returning h h .returning :=
 fun _ _ w hok => (VN p q w).mono fun _ _ _ ⟨h1, h2, h3⟩ => ⟨h1, h2, h3 ▸ hok, fun _ _ => by rw [h3]⟩
theorem Qa (b c : Nat) (x y : AV) (n : Int) : CD Tryz.prog 134 #[.pointer (some ⟨b, 0, none⟩), .pointer (some ⟨c, 0, none⟩)] (.panicking [{ v := .iface 34 (.int .i64 n), recovered := false }])
 [.cells c 34 [y], .cells b 3 [x]] [.cells c 34 [.int n], .cells b 3 [.val (.int .i64 0)]] (.panicking [{ v := .iface 34 (.int .i64 n), recovered := true }]) := by
 intro cx I w hok
 obtain ⟨u1, d1⟩ := Ent.cells_one (hok.ent (.cells b 3 [x]) (by simp))
 obtain ⟨u2, d2⟩ := Ent.cells_one (hok.ent (.cells c 34 [y]) (by simp))
 have hbc : b ≠ c := by
  have := hok.nd
  simp [blks, Ent.blk] at this
  exact fun e => this e.symm
 refine (Xu b c hbc u1 u2 n w d1 d2).mono ?_
 rintro e u' w' ⟨h1, h2, rfl⟩
 obtain ⟨k1, k2⟩ := Ok.set1 (h1 := [.cells c 34 [y]]) (h2 := []) (v := .int .i64 0) hok
 obtain ⟨k3, k4⟩ := Ok.set1 (h1 := []) (v := .int .i64 n) k1
 exact ⟨h1, h2, k3.same (Dq.drewN 1), fun z hz => (k4 z hz).trans (k2 z hz)⟩
theorem fA (G : List (Nat × List D)) (bm : Nat) (env S base : List Int) (k v n : Int) (q : Sl) (hS : S.length ≤ 900) (h : dz k v env S base n) : AC Tryz.prog G 135 [.val (.pointer (some ⟨bm, 0, none⟩)), .agg [.int k, .int v]] [.cells bm 193 [.val q.v, .d (AJ env)], AL q.v 3 1 AS S] (DoQ bm env base n) := by
 rcases h with ⟨rfl, h⟩ | ⟨rfl, rfl, h0, h1, rfl⟩ | ⟨rfl, a, rfl, ha, rfl⟩ | ⟨a, b, rfl, la, lb, h⟩
 · exact do0 G bm env S k v n q jB h
 · exact dov G bm env S v q jB h0 h1
 · simp only [List.length_append, List.length_cons, List.length_nil] at hS
   exact don G bm env base v a q jB ha
 · simp only [List.length_append, List.length_cons, List.length_nil] at hS
   have hm : -2000000000000 ≤ a * b ∧ a * b ≤ 2000000000000 := by
    have h : (a * b).natAbs ≤ 1000000 * 1000000 := by
     rw [Int.natAbs_mul]
     unfold AU at la lb
     exact Nat.mul_le_mul jB jB
    generalize a * b = z at h
    omega
   rcases h with ⟨rfl, rfl⟩ | ⟨rfl, rfl⟩ | ⟨rfl, rfl⟩ | ⟨rfl, rfl⟩ | ⟨rfl, rfl⟩ | ⟨rfl, b1, b2, rfl⟩ | ⟨rfl, b1, b2, rfl⟩
   · exact gE G bm env base v a b q jB la lb (by unfold AU at la lb; omega)
   · exact gD G bm env base v a b q jB la lb (by unfold AU at la lb; omega)
   · exact ee G bm env base v a b q jB la lb hm
   · exact iF G bm env base v a b q jB la lb (by split <;> decide)
   · exact ga G bm env base v a b q jB la lb (by split <;> decide)
   · exact fU G bm env base v a b q jB la lb (by rcases b1 with rfl | rfl <;> rcases b2 with rfl | rfl <;> decide)
   · exact gV G bm env base v a b q jB la lb (by rcases b1 with rfl | rfl <;> rcases b2 with rfl | rfl <;> decide)
theorem Eval (l : List Fo) (env : List Int) : ACr Tryz.prog GP 83 [.d (AO l), .d (AJ env)] (.tup [.int (BS l env).1, .int (BS l env).2]) := by
 refine AC.factI (f := AS) (xs := env) (.there .here) fun hlv => ?_
 have hC := Ye l env.length
 refine Ys Tryz.f83.ntmps Tryz.func83 rfl rfl (by simp [Tryz.ntmps83]) fun W I => ?_
 have hgood := No (l := l) (vars := env.length)
 unfold BS
 generalize Cp l env.length = p at hC hgood ⊢
 obtain ⟨t, e⟩ := p
 dsimp only at hC hgood ⊢
 apply FT
 repeat' (first | refine ca H5 (hC) ?_ | exact jA | refine AF ?_ | refine two ?_ ?_ | refine AB fun c_ => ?_ | refine imp fun hc => ?_; try exact cx1 hc | refine all fun v_ => ?_)
 rename_i bn
 rename Nat => be
 apply CP
 apply FT
 by_cases he : e ≠ 0
 · repeat' (first | refine ca H5 (hC) ?_ | exact jA | refine AF ?_ | refine two ?_ ?_ | refine AB fun c_ => ?_ | refine imp fun hc => ?_; try exact cx1 hc | refine all fun v_ => ?_)
   apply QJ
   refine Ee (h0 := []) rfl (by unfold BR; kernel_rfl) (by unfold BR; kernel_rfl) rfl rfl AW AW rfl (jc _) (AV.le_refl _) (AV.le_refl _) ?_
   refine AA ?_
   rw [if_pos he]
 replace he := jY he
 obtain ⟨g, _, hv6⟩ := hgood he
 have h60 := g.h60
 subst he
 rw [if_neg (fun h => h rfl)]
 repeat' (first | refine ca H5 (hC) ?_ | exact jA | refine AF ?_ | refine two ?_ ?_ | refine AB fun c_ => ?_ | refine imp fun hc => ?_; try exact cx1 hc | refine all fun v_ => ?_)
 apply CP
 dsimp only
 apply FT
 repeat' (first | exact jA | refine AF ?_ | refine two ?_ ?_ | refine AB fun c_ => ?_ | refine imp fun hc => ?_; try exact cx1 hc | refine all fun v_ => ?_)
 refine AG (X := Nat) (fun i => [(0, .d (AO l)), (1, .d (AJ env)), (4, .val (.pointer (some ⟨bn, 0, none⟩))), (5, .val (.pointer (some ⟨be, 0, none⟩))), (22, .d (AJ env)), (23, .int env.length), (24, .int i)]) (fun _ => [.cells be 34 [.int 0], .cells bn 3 [.int 0]]) (fun i => i ≤ env.length ∧ ∀ (j : Nat) (h : j < env.length), j < i → AU env[j]) (fun i => env.length - i) 0 ⟨Nat.zero_le _, fun _ _ h => absurd h (Nat.not_lt_zero _)⟩ (VS.of_le ?_) ?_
 · exact leD
 rintro i ⟨h1, h2⟩
 by_cases hi : i < env.length
 · by_cases hl : AU env[i]
   · have hl' := hl
     unfold AU at hl'
     repeat' (first | exact jA | refine AF ?_ | refine two ?_ ?_ | refine AB fun c_ => ?_ | refine imp fun hc => ?_; try exact cx1 hc | refine all fun v_ => ?_)
     refine ⟨i + 1, ⟨by omega, fun j hj hji => ?_⟩, by omega, VS.of_le ?_⟩
     · by_cases e : j = i
       · subst e; exact hl
       · exact h2 j hj jB
     · exact leD
   · have hno : ¬ ∀ v ∈ env, AU v := fun h => hl (h _ (jb hi))
     have hl' := hl
     unfold AU at hl'
     rw [if_neg hno]
     repeat' (first | exact jA | refine AF ?_ | refine two ?_ ?_ | refine AB fun c_ => ?_ | refine imp fun hc => ?_; try exact cx1 hc | refine all fun v_ => ?_)
     all_goals
      apply QJ
      refine Ee (h0 := []) rfl (by unfold BR; kernel_rfl) (by unfold BR; kernel_rfl) rfl rfl AW AW rfl (jc _) (AV.le_refl _) (AV.le_refl _) ?_
      exact AA rfl
 obtain rfl : i = env.length := by omega
 have henv : ∀ v ∈ env, AU v := fun v hv => by
  obtain ⟨j, hj, rfl⟩ := List.getElem_of_mem hv
  exact h2 j hj hj
 rw [if_pos henv]
 repeat' (first | exact jA | refine AF ?_ | refine two ?_ ?_ | refine AB fun c_ => ?_ | refine imp fun hc => ?_; try exact cx1 hc | refine all fun v_ => ?_)
 apply CP
 dsimp only
 refine UL (Sq (vs := [.pointer (some ⟨bn, 0, none⟩), .pointer (some ⟨be, 0, none⟩)]) rfl rfl ?_)
 apply CP
 dsimp only
 apply FT
 repeat' (first | exact jA | refine AF ?_ | refine two ?_ ?_ | refine AB fun c_ => ?_ | refine imp fun hc => ?_; try exact cx1 hc | refine all fun v_ => ?_)
 obtain ⟨bm, rfl⟩ : ∃ x, x = v_ := ⟨_, rfl⟩
 apply CP
 dsimp only
 apply FT
 repeat' (first | exact jA | refine AF ?_ | refine two ?_ ?_ | refine AB fun c_ => ?_ | refine imp fun hc => ?_; try exact cx1 hc | refine all fun v_ => ?_)
 refine AG (X := Nat × List Int × Sl) (fun y => [(0, .d (AO l)), (4, .val (.pointer (some ⟨bn, 0, none⟩))), (5, .val (.pointer (some ⟨be, 0, none⟩))), (10, .val (.pointer (some ⟨bm, 0, none⟩))), (11, .int ((y.1 : Int) - 1))]) (fun y => [.cells bm 193 [.val y.2.2.v, .d (AJ env)], AL y.2.2.v 3 1 AS y.2.1, .cells be 34 [.int 0], .cells bn 3 [.int 0]]) (fun y => y.1 ≤ l.length ∧ Stk l (evF l env) y.1 y.2.1 ∧ ∀ j, y.1 ≤ j → j < l.length → (Bs l env j).isSome) (fun y => y.1) (l.length, [], Sl.nil) ⟨Nat.le_refl _, .nil (Nat.le_refl _), fun j h1 h2 => by dsimp only at h1; omega⟩ (VS.trans (VS.nilrow 3 1) (VS.take AH ?_)) ?_
 · exact leD
 rintro ⟨i, S, q⟩ ⟨k1, k2, k3⟩
 dsimp only at k1 k2 k3 ⊢
 have hSl := k2.len g.well k1
 cases i with
 | zero =>
   obtain ⟨S', rfl, hS'⟩ := k2.inv g.pos
   obtain ⟨_, _, hend, _, _⟩ := B1 (l := l) (es := (Af l).1) (Prod.ext rfl g.ends)
   have hE : (Sp.AM l ((0 : Nat) : Int)).1.toNat = l.length := by
    rw [show ((0 : Nat) : Int) = 0 from rfl, hend]; exact Int.toNat_natCast _
   rw [hE] at hS'
   obtain rfl := hS'.fin (Nat.le_refl _)
   have h0 := Qr (k3 0 (Nat.le_refl _) g.pos)
   have hwk : wk l env = (evF l env 0, 0) := by unfold wk; rw [h0]
   rw [hwk]
   generalize evF l env 0 = n
   repeat' (first | ((with_reducible apply D8); rfl; exact CX; (focus exact pop GP bm env [] n q (by decide)); exact BF; rfl; exact EI) | exact jA | refine AF ?_ | refine two ?_ ?_ | refine AB fun c_ => ?_ | refine imp fun hc => ?_; try exact cx1 hc | refine all fun v_ => ?_)
   apply CP
   dsimp only
   apply YG
   repeat' (first | ((with_reducible apply D8); rfl; exact CX; (focus exact pop GP bm env [] n q (by decide)); exact BF; rfl; exact EI) | exact jA | refine AF ?_ | refine two ?_ ?_ | refine AB fun c_ => ?_ | refine imp fun hc => ?_; try exact cx1 hc | refine all fun v_ => ?_)
   refine K4 (by simp) Pu (OX _ _ _) (m := .returning) rfl ?_
   refine Ee (h0 := []) rfl (by unfold BR; kernel_rfl) (by unfold BR; kernel_rfl) rfl rfl AW AW rfl (jc _) (AV.le_refl _) (AV.le_refl _) ?_
   exact AA rfl
 | succ m =>
   have hm : m < l.length := by omega
   have hm1 : ((m + 1 : Nat) : Int) - 1 = (m : Int) := by omega
   obtain ⟨base, n, d, d1, d2⟩ := k2.step g henv hm (fun j h1 h2 => k3 j jB h2)
   have hac := fA GP bm env S base l[m].kind l[m].val n q jB d
   rw [hm1]
   repeat' (first | exact jA | refine AF ?_ | refine two ?_ ?_ | refine AB fun c_ => ?_ | refine imp fun hc => ?_; try exact cx1 hc | refine all fun v_ => ?_)
   refine Ny (hc := [_, _]) rfl dd rfl hac rfl (fun r h' hq => ?_) (fun ch h' hq => ?_)
   · obtain ⟨v, ⟨hl, hr, rfl⟩ | ⟨_, hr, _⟩⟩ := hq
     · cases hr
       simp only [List.cons_append, List.nil_append]
       repeat' (first | exact jA | refine AF ?_ | refine two ?_ ?_ | refine AB fun c_ => ?_ | refine imp fun hc => ?_; try exact cx1 hc | refine all fun v_ => ?_)
       refine ⟨(m, base ++ [n], v), ⟨by dsimp only; omega, (d1 hl).2, fun j h1 h2 => ?_⟩, jC, VS.of_le ?_⟩
       · by_cases e : j = m
         · subst e; rw [(d1 hl).1]; rfl
         · exact k3 j (by dsimp only at h1; omega) h2
       · exact leD
     · cases hr
   · obtain ⟨v, ⟨_, hr, _⟩ | ⟨hl, hr, rfl⟩⟩ := hq
     · cases hr
     · cases hr
       have hno : Bs l env 0 = none := by
        cases hx : Bs l env 0 with
        | none => rfl
        | some v =>
          obtain ⟨_, _, hend, _, _⟩ := B1 (l := l) (es := (Af l).1) (Prod.ext rfl g.ends)
          have hend' : (Sp.AM l ((0 : Nat) : Int)).1 = l.length := by rw [show ((0 : Nat) : Int) = 0 from rfl, hend]
          have := gQ g l.length 0 g.pos (by rw [hend']; omega) (by rw [hx]; rfl) m (Nat.zero_le _) (by rw [hend']; omega)
          rw [d2 hl] at this; exact absurd this (by simp)
       have hwk : wk l env = (0, 8) := by unfold wk; rw [hno]
       rw [hwk]
       simp only [List.cons_append, List.nil_append]
       repeat' (refine stp ?_)
       apply LJ
       refine Vi (VS.take (hc := [.cells be 34 [.int 0], .cells bn 3 [.int 0]]) AH (Env.le_refl _)) ?_
       refine K4 (by simp) Pu (Qa bn be _ _ 8) (m := .returning) rfl ?_
       refine Ee (h0 := []) rfl (by unfold BR; kernel_rfl) (by unfold BR; kernel_rfl) rfl rfl AW AW rfl (jc _) (AV.le_refl _) (AV.le_refl _) ?_
       exact AA rfl
end Go.Proofs.YtnlfhnbcdfdhgaaGreatDoor
namespace Go.Sp
open Go Go.Av
theorem DC.part {l : List Fo} {vars : Int} (g : DC l vars) {i : Nat} (hi : i < l.length) : DC ((l.drop i).take ((AM l i).1.toNat - i)) vars := by
 have hw := g.well i hi
 have hb := Ak l i hw
 have hlen := Gb hw
 have h60 := g.h60
 have hl60 : ((l.drop i).take ((AM l i).1.toNat - i)).length ≤ 60 := by omega
 have he := PQ hl60 (by
  have := MH hw 0 jB
  simp only [Int.natCast_zero, Nat.add_zero] at this
  rw [this, hlen])
 refine ⟨hl60, by omega, Mt he, fun q hq => ?_, fun q hq => ?_, he⟩
 · have : i + q < l.length := by omega
   have e : ((l.drop i).take ((AM l i).1.toNat - i))[q] = l[i + q] := by simp
   rw [e]; exact g.op _ this
 · exact (PA hw q jB).2 (g.typed (i + q) jB)
theorem NJ {l : List Fo} {env : List Int} {vars : Int} (g : DC l vars) {i : Nat} (hi : i < l.length) : Bs ((l.drop i).take ((AM l i).1.toNat - i)) env 0 = Bs l env i := by
 have hb := Ak l i (g.well i hi)
 have := dH (env := env) g hi l.length 0 jB jB
 exact this
structure eY (l : List Fo) (env : List Int) (ps : List (List Fo)) : Prop where
 good : ∀ (j : Nat) (h : j < ps.length), DC ps[j] env.length ∧ ps[j].length < l.length
 many : (ps.length : Int) = np l 0
 no : ∀ (j : Nat) (h : j < ps.length), Bs ps[j] env 0 = none → Bs l env 0 = none
 yes : ∀ v : List Int, v.length = ps.length → (∀ (j : Nat) (h : j < ps.length) (h' : j < v.length), Bs ps[j] env 0 = some v[j]) → Bs l env 0 = ovr (opV (Ag l 0) (HM l 0) env ((v[0]?).getD 0) ((v[1]?).getD 0))
theorem Ha {l : List Fo} {env : List Int} (g : DC l env.length) : eY l env (BY l).1 := by
 have hpos := g.pos
 have ev := H0 l env 0 hpos
 have hs : (BY l).1 = chunks l (np l 0).toNat 1 := by
  rw [BY, if_neg (fun h => h g.ends)]
  show chunks l (partsOf ((l[0]?.map Fo.kind).getD 0)).1.toNat 1 = _
  rw [np, Ag]
 rw [hs]
 unfold Lj at ev
 rcases g.parts hpos with ⟨n0, e0⟩ | ⟨n1, p1, e1⟩ | ⟨n2, p1, p2, p3, p4, e2⟩
 · rw [n0] at ev
   have : chunks l (np l 0).toNat 1 = [] := by rw [n0]; rfl
   rw [this]
   refine ⟨fun j h => absurd h (Nat.not_lt_zero _), by rw [n0]; rfl, fun j h => absurd h (Nat.not_lt_zero _), fun v hv _ => ?_⟩
   obtain rfl : v = [] := List.eq_nil_of_length_eq_zero hv
   exact ev
 · rw [n1] at ev
   have hc : chunks l (np l 0).toNat 1 = [(l.drop 1).take ((AM l (1 : Nat)).1.toNat - 1)] := by rw [n1]; rfl
   have g1 := g.part p1
   have v1 := NJ (env := env) g p1
   have hlt : ((l.drop 1).take ((AM l (1 : Nat)).1.toNat - 1)).length < l.length := by rw [List.length_take, List.length_drop]; omega
   simp only [Nat.zero_add] at g1 v1 ev p1
   rw [hc]
   refine ⟨fun j h => ?_, by rw [n1]; rfl, fun j h hn => ?_, fun v hv hv' => ?_⟩
   · obtain rfl : j = 0 := by simpa using h
     exact ⟨g1, hlt⟩
   · obtain rfl : j = 0 := by simpa using h
     have hn : Bs ((l.drop 1).take ((AM l (1 : Nat)).1.toNat - 1)) env 0 = none := hn
     rw [v1] at hn
     rw [ev, hn]; rfl
   · match v, hv with
     | [a], _ =>
       have := hv' 0 (by simp) (by simp)
       have this : Bs ((l.drop 1).take ((AM l (1 : Nat)).1.toNat - 1)) env 0 = some a := this
       rw [v1] at this
       rw [ev, this]; rfl
 · rw [n2] at ev
   have hc : chunks l (np l 0).toNat 1 = [(l.drop 1).take ((AM l (1 : Nat)).1.toNat - 1), (l.drop (second l 0)).take ((AM l (second l 0 : Nat)).1.toNat - second l 0)] := by rw [n2]; rfl
   have g1 := g.part p1
   have v1 := NJ (env := env) g p1
   have g2 := g.part p3
   have v2 := NJ (env := env) g p3
   have hlt : ((l.drop 1).take ((AM l (1 : Nat)).1.toNat - 1)).length < l.length := by rw [List.length_take, List.length_drop]; omega
   have hlt2 : ((l.drop (second l 0)).take ((AM l (second l 0 : Nat)).1.toNat - second l 0)).length < l.length := by rw [List.length_take, List.length_drop]; omega
   rw [if_pos (show 0 < second l 0 by omega)] at ev
   simp only [Nat.zero_add] at g1 v1 ev p1
   rw [hc]
   refine ⟨fun j h => ?_, by rw [n2]; rfl, fun j h hn => ?_, fun v hv hv' => ?_⟩
   · have : j = 0 ∨ j = 1 := by simp at h; omega
     rcases this with rfl | rfl
     · exact ⟨g1, hlt⟩
     · exact ⟨g2, hlt2⟩
   · have : j = 0 ∨ j = 1 := by simp at h; omega
     rcases this with rfl | rfl
     · have hn : Bs ((l.drop 1).take ((AM l (1 : Nat)).1.toNat - 1)) env 0 = none := hn
       rw [v1] at hn
       rw [ev, hn]; rfl
     · have hn : Bs ((l.drop (second l 0)).take ((AM l (second l 0 : Nat)).1.toNat - second l 0)) env 0 = none := hn
       rw [v2] at hn
       rw [ev, hn]
       cases Bs l env 1 <;> rfl
   · match v, hv with
     | [a, b], _ =>
       have t1 : Bs ((l.drop 1).take ((AM l (1 : Nat)).1.toNat - 1)) env 0 = some a := hv' 0 (by simp) (by simp)
       have t2 : Bs ((l.drop (second l 0)).take ((AM l (second l 0 : Nat)).1.toNat - second l 0)) env 0 = some b := hv' 1 (by simp) (by simp)
       rw [v1] at t1
       rw [v2] at t2
       rw [ev, t1, t2]; rfl
end Go.Sp
namespace Go.Proofs.YtnlfhnbcdfdhgaaGreatDoor
open Go Go.Av Go.Sp
theorem CQ : Cal Tryz.prog 162 := Cal.of Tryz.func162 (by kernel_rfl) (by kernel_rfl)
theorem DH : Cal Tryz.prog 117 := Cal.of Tryz.func117 (by kernel_rfl) (by kernel_rfl)
theorem Eu {l : List Fo} {env : List Int} {n : Int} (h : Bs l env 0 = some n) : wk l env = (n, 0) := by unfold wk; rw [h]
theorem C5 {l : List Fo} {env : List Int} (h : Bs l env 0 = none) : wk l env = (0, 8) := by unfold wk; rw [h]
theorem Zu (G : List (Nat × List D)) (env : List Int) (henv : ∀ v ∈ env, AU v) (h6 : env.length ≤ 6) (m : Nat) (ih : ∀ m' : Nat, m' < m → ∀ l : List Fo, l.length ≤ m' → DC l env.length → ACr Tryz.prog G 162 [.d (AO l), .d (AJ env)] (.tup [.int (wk l env).1, .int (wk l env).2])) (l : List Fo) (hm : l.length ≤ m) (g : DC l env.length) (hsel : 1 ≤ (l[nat_lit 0]'g.pos).kind ∧ (l[nat_lit 0]'g.pos).kind ≤ 2) : ACr Tryz.prog G 162 [.d (AO l), .d (AJ env)] (.tup [.int (wk l env).1, .int (wk l env).2]) := by
 have hE := JP G l
 have hpos := g.pos
 have h60 := g.h60
 have W := Ha g
 have hfew : np l 0 ≤ 2 := (Bz _).2
 obtain ⟨k1, k2, k3, k4⟩ : 1 ≤ (l[nat_lit 0]'hpos).kind ∧ (l[nat_lit 0]'hpos).kind ≤ 12 ∧ ((l[nat_lit 0]'hpos).kind = 1 → -1000 ≤ (l[nat_lit 0]'hpos).val ∧ (l[nat_lit 0]'hpos).val ≤ 1000) ∧ ((l[nat_lit 0]'hpos).kind = 2 → 0 ≤ (l[nat_lit 0]'hpos).val ∧ (l[nat_lit 0]'hpos).val < env.length) := g.kind hpos
 have hk0 : Ag l 0 = (l[nat_lit 0]'hpos).kind := Aq l 0 hpos
 have hv0 : HM l 0 = (l[nat_lit 0]'hpos).val := Ex l 0 hpos
 generalize BY l = sp at hE W
 obtain ⟨ps, e⟩ := sp
 dsimp only at hE W
 have hmany := W.many
 refine AK (ts := [4, 5]) Tryz.f162.ntmps Tryz.func162 rfl rfl rfl (by simp [Tryz.ntmps162]) fun _ I => ?_
 repeat' (first | refine ca C2 (hE) ?_ | exact jA | refine AF ?_ | refine two ?_ ?_ | refine AB fun c_ => ?_ | refine imp fun hc => ?_; try exact cx1 hc | refine all fun v_ => ?_)
 refine AG (X := Nat × Sl) (fun y => [(0, .d (AO l)), (1, .d (AJ env)), (6, .d (Ar ps)), (8, .val y.2.v), (9, .int y.1)]) (fun y => [AL y.2.v 3 1 AS (List.replicate y.1 0)]) (fun y => y.1 ≤ ps.length) (fun y => ps.length - y.1) (0, Sl.nil) (Nat.zero_le _) (VS.trans (VS.nilrow 3 1) (VS.of_le ?_)) ?_
 · exact leD
 rintro ⟨i, q⟩ hi
 dsimp only at hi ⊢
 by_cases hil : i < ps.length
 · have hr : List.replicate i (0 : Int) ++ [0] = List.replicate (i + 1) 0 := List.replicate_succ'.symm
   repeat' (first | exact jA | refine AF ?_ | refine two ?_ ?_ | refine AB fun c_ => ?_ | refine imp fun hc => ?_; try exact cx1 hc | refine all fun v_ => ?_)
   rw [hr]
   refine ⟨(i + 1, v_), jC, jC, VS.of_le ?_⟩
   exact leD
 obtain rfl : i = ps.length := by omega
 repeat' (first | exact jA | refine AF ?_ | refine two ?_ ?_ | refine AB fun c_ => ?_ | refine imp fun hc => ?_; try exact cx1 hc | refine all fun v_ => ?_)
 refine AG (X := Nat × List Int) (fun y => [(0, .d (AO l)), (1, .d (AJ env)), (6, .d (Ar ps)), (8, .val q.v), (10, .int ((y.1 : Int) - 1))]) (fun y => [AL q.v 3 1 AS y.2]) (fun y => y.1 ≤ ps.length ∧ y.2.length = ps.length ∧ ∀ (j : Nat) (h : j < ps.length) (h' : j < y.2.length), y.1 ≤ j → Bs ps[j] env 0 = some y.2[j]) (fun y => y.1) (ps.length, List.replicate ps.length 0) ⟨Nat.le_refl _, by simp, fun j h _ h2 => by dsimp only at h2; omega⟩ (VS.of_le ?_) ?_
 · exact leD
 clear hi hil
 rintro ⟨i, v⟩ ⟨j1, j2, j3⟩
 dsimp only at j1 j2 j3 ⊢
 cases i with
 | succ i =>
   have hm1 : ((i + 1 : Nat) : Int) - 1 = (i : Int) := by omega
   have hip : i < ps.length := by omega
   obtain ⟨gi, li⟩ := W.good i hip
   have C := ih ps[i].length jB ps[i] (Nat.le_refl _) gi
   rw [hm1]
   cases hx : Bs ps[i] env 0 with
   | none =>
     rw [C5 hx] at C
     rw [C5 (W.no i hip hx)]
     repeat' (first | refine ca CQ (C) ?_ | exact jA | refine AF ?_ | refine two ?_ ?_ | refine AB fun c_ => ?_ | refine imp fun hc => ?_; try exact cx1 hc | refine all fun v_ => ?_)
     refine AI jE ?_
     ((with_reducible apply rq2); rfl; rfl; rfl)
     refine AA ?_
     rfl
   | some n =>
     rw [Eu hx] at C
     repeat' (first | refine ca CQ (C) ?_ | exact jA | refine AF ?_ | refine two ?_ ?_ | refine AB fun c_ => ?_ | refine imp fun hc => ?_; try exact cx1 hc | refine all fun v_ => ?_)
     refine ⟨(i, v.set i n), ⟨by dsimp only; omega, by dsimp only; rw [List.length_set]; exact j2, fun j h h' h2 => ?_⟩, jC, VS.of_le ?_⟩
     · dsimp only at h' h2 ⊢
       rw [List.getElem_set]
       split
       · rename_i e; subst e; exact hx
       · exact j3 j h (by simpa using h') jB
     · exact leD
 | zero =>
 have hy := W.yes v j2 fun j h h' => j3 j h h' (Nat.zero_le _)
 rw [hk0, hv0] at hy
 have hwk : ∀ N, opV (l[nat_lit 0]'hpos).kind (l[nat_lit 0]'hpos).val env ((v[0]?).getD 0) ((v[1]?).getD 0) = N → wk l env = if AU N then (N, 0) else (0, 8) := fun N h => by
  rw [h] at hy
  by_cases hl : AU N
  · rw [Fs hl] at hy; rw [Eu hy, if_pos hl]
  · rw [HF hl] at hy; rw [C5 hy, if_neg hl]
 have hcell : ∀ (j : Nat) (h' : j < v.length), AU v[j] := fun j h' => Jq (W.good j jB).1.pos (j3 j jB h' (Nat.zero_le _))
 have e1 := A7 (In G 1 (-1000000) 1000000) (by decide)
 have e0 := A7 (In G 0 (-1000000) 1000000) (by decide)
 have hnp : np l 0 = (partsOf (l[nat_lit 0]'hpos).kind).1 := by rw [np, hk0]
 rw [hnp] at hmany
 by_cases c1 : (l[nat_lit 0]'hpos).kind = 1
 · have hl : AU (l[nat_lit 0]'hpos).val := by have := k3 c1; unfold AU; omega
   rw [c1] at hwk
   have hin := A7 (In G ((l[nat_lit 0]'hpos).val) (-1000000) 1000000) hl
   repeat' (first | refine ca AN (hin) ?_ | exact jA | refine AF ?_ | refine two ?_ ?_ | refine AB fun c_ => ?_ | refine imp fun hc => ?_; try exact cx1 hc | refine all fun v_ => ?_)
   refine AI jE ?_
   ((with_reducible apply rq2); rfl; rfl; rfl)
   refine AA ?_
   rw [hwk ((l[nat_lit 0]'hpos).val) rfl, if_pos hl] <;> rfl
 by_cases c2 : (l[nat_lit 0]'hpos).kind = 2
 · obtain ⟨v1, v2⟩ := k4 c2
   have hlt : (l[nat_lit 0]'hpos).val.toNat < env.length := by omega
   have hl : AU env[(l[nat_lit 0]'hpos).val.toNat] := henv _ (jb hlt)
   have hin := A7 (In G (env[(l[nat_lit 0]'hpos).val.toNat]) (-1000000) 1000000) hl
   repeat' (first | refine ca AN (hin) ?_ | exact jA | refine AF ?_ | refine two ?_ ?_ | refine AB fun c_ => ?_ | refine imp fun hc => ?_; try exact cx1 hc | refine all fun v_ => ?_)
   refine AI jE ?_
   ((with_reducible apply rq2); rfl; rfl; rfl)
   refine AA ?_
   rw [hwk (env[(l[nat_lit 0]'hpos).val.toNat]) (by rw [c2]; simp [opV, hlt]), if_pos hl] <;> rfl
 omega
end Go.Proofs.YtnlfhnbcdfdhgaaGreatDoor
