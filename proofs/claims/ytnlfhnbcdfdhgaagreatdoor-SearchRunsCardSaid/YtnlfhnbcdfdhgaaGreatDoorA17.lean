/- Own texts. -/
import Derived.ProofKit
import Derived.Lib.LaidTab
import Derived.Deep.Slices
import Derived.ShutString
import Derived.OpenShut
import Derived.Test.YtnlfhnbcdfdhgaaGreatDoorA13
import Derived.Test.YtnlfhnbcdfdhgaaGreatDoorA14
import Derived.Test.YtnlfhnbcdfdhgaaGreatDoorA15
import Derived.Test.YtnlfhnbcdfdhgaaGreatDoorA16
set_option linter.unusedVariables false
set_option linter.unusedSimpArgs false
set_option maxRecDepth 100000
set_option maxHeartbeats 4000000
namespace Go.Proofs.YtnlfhnbcdfdhgaaGreatDoor
open Go Go.Av Go.Sp
theorem fC (G : List (Nat × List D)) (env : List Int) (henv : ∀ v ∈ env, AU v) (h6 : env.length ≤ 6) : ∀ (m : Nat) (l : List Fo), l.length ≤ m → DC l env.length → ACr Tryz.prog G 162 [.d (AO l), .d (AJ env)] (.tup [.int (wk l env).1, .int (wk l env).2]) := by
 intro m
 induction m using Nat.strongRecOn with
 | _ m ih =>
 intro l hm g
 have hk := g.kind g.pos
 have hk1 : 1 ≤ (l[nat_lit 0]'g.pos).kind := hk.1
 have hk2 : (l[nat_lit 0]'g.pos).kind ≤ 12 := hk.2.1
 by_cases a1 : (l[nat_lit 0]'g.pos).kind ≤ 2
 · exact Zu G env henv h6 m ih l hm g ⟨hk1, a1⟩
 by_cases a2 : (l[nat_lit 0]'g.pos).kind ≤ 5
 · exact bB G env henv h6 m ih l hm g ⟨by omega, a2⟩
 by_cases a3 : (l[nat_lit 0]'g.pos).kind ≤ 7
 · exact Yi G env henv h6 m ih l hm g ⟨by omega, a3⟩
 by_cases a4 : (l[nat_lit 0]'g.pos).kind ≤ 9
 · exact bP G env henv h6 m ih l hm g ⟨by omega, a4⟩
 exact YL G env henv h6 m ih l hm g ⟨by omega, hk2⟩
theorem LY (G : List (Nat × List D)) (l : List Fo) (env : List Int) : ACr Tryz.prog G 117 [.d (AO l), .d (AJ env)] (.tup [.int (BS l env).1, .int (BS l env).2]) := by
 refine AC.factI (f := AS) (xs := env) (.there .here) fun hlv => ?_
 have hC := Ln G l env.length
 refine AK (ts := [4, 5]) Tryz.f117.ntmps Tryz.func117 rfl rfl rfl (by simp [Tryz.ntmps117]) fun _ I => ?_
 have hgood := No (l := l) (vars := env.length)
 unfold BS
 generalize Cp l env.length = p at hC hgood ⊢
 obtain ⟨t, e⟩ := p
 dsimp only at hC hgood ⊢
 by_cases he : e ≠ 0
 · repeat' (first | refine ca FH (hC) ?_ | exact jA | refine AF ?_ | refine two ?_ ?_ | refine AB fun c_ => ?_ | refine imp fun hc => ?_; try exact cx1 hc | refine all fun v_ => ?_)
   refine AI jE ?_
   ((with_reducible apply rq2); rfl; rfl; rfl)
   refine AA ?_
   rw [if_pos he]
 replace he := jY he
 obtain ⟨g, _, hv6⟩ := hgood he
 subst he
 rw [if_neg (fun h => h rfl)]
 repeat' (first | refine ca FH (hC) ?_ | exact jA | refine AF ?_ | refine two ?_ ?_ | refine AB fun c_ => ?_ | refine imp fun hc => ?_; try exact cx1 hc | refine all fun v_ => ?_)
 refine AG (X := Nat) (fun i => [(0, .d (AO l)), (1, .d (AJ env)), (8, .int i)]) (fun _ => []) (fun i => i ≤ env.length ∧ ∀ (j : Nat) (h : j < env.length), j < i → AU env[j]) (fun i => env.length - i) 0 ⟨Nat.zero_le _, fun _ _ h => absurd h (Nat.not_lt_zero _)⟩ (VS.of_le ?_) ?_
 · exact leD
 rintro i ⟨h1, h2⟩
 by_cases hi : i < env.length
 · by_cases hl : AU env[i]
   · have hin := A7 (In G (env[i]) (-1000000) 1000000) hl
     repeat' (first | refine ca AN (hin) ?_ | exact jA | refine AF ?_ | refine two ?_ ?_ | refine AB fun c_ => ?_ | refine imp fun hc => ?_; try exact cx1 hc | refine all fun v_ => ?_)
     refine ⟨i + 1, ⟨by omega, fun j hj hji => ?_⟩, by omega, VS.of_le ?_⟩
     · by_cases e : j = i
       · subst e; exact hl
       · exact h2 j hj jB
     · exact leD
   · have hno : ¬ ∀ v ∈ env, AU v := fun h => hl (h _ (jb hi))
     have hin := Dg (In G (env[i]) (-1000000) 1000000) hl
     rw [if_neg hno]
     repeat' (first | refine ca AN (hin) ?_ | exact jA | refine AF ?_ | refine two ?_ ?_ | refine AB fun c_ => ?_ | refine imp fun hc => ?_; try exact cx1 hc | refine all fun v_ => ?_)
     refine AI jE ?_
     ((with_reducible apply rq2); rfl; rfl; rfl)
     refine AA ?_
     rfl
 obtain rfl : i = env.length := by omega
 have henv : ∀ v ∈ env, AU v := fun v hv => by
  obtain ⟨j, hj, rfl⟩ := List.getElem_of_mem hv
  exact h2 j hj hj
 rw [if_pos henv]
 have hw := fC G env henv jB l.length l (Nat.le_refl _) g
 repeat' (first | refine ca CQ (hw) ?_ | exact jA | refine AF ?_ | refine two ?_ ?_ | refine AB fun c_ => ?_ | refine imp fun hc => ?_; try exact cx1 hc | refine all fun v_ => ?_)
 refine AI jE ?_
 ((with_reducible apply rq2); rfl; rfl; rfl)
 refine AA ?_
 rfl
end Go.Proofs.YtnlfhnbcdfdhgaaGreatDoor
namespace Go.Sp
open Go Go.Av
theorem Lw (n : Int) : ∀ (l : List Ru), Eb n l = 0 → ∀ r ∈ l, EP r n = 0
 | [], _, r, hr => by cases hr
 | r :: l, h, q, hq => by
   rw [Eb] at h
   by_cases c : EP r n ≠ 0
   · rw [if_pos c] at h; exact absurd h c
   · rw [if_neg c] at h
     rcases List.mem_cons.1 hq with rfl | hq
     · exact jY c
     · exact Lw n l h q hq
theorem OG (n : Int) : ∀ (l : List St) (seen : List Int), H7 n l seen = 0 → (∀ s ∈ l, 0 ≤ s.var ∧ s.var < n ∧ Cn s.val n false = 0 ∧ s.var ∉ seen) ∧ (l.map St.var).Nodup
 | [], _, _ => ⟨fun s hs => (by cases hs), List.nodup_nil⟩
 | s :: l, seen, h => by
   rw [H7] at h
   by_cases c1 : ¬ (0 ≤ s.var ∧ s.var < n)
   · rw [if_pos c1] at h; exact absurd h (by decide)
   rw [if_neg c1] at h
   by_cases c2 : s.var ∈ seen
   · rw [if_pos c2] at h; exact absurd h (by decide)
   rw [if_neg c2] at h
   by_cases c3 : Cn s.val n false ≠ 0
   · rw [if_pos c3] at h; exact absurd h c3
   rw [if_neg c3] at h
   obtain ⟨i1, i2⟩ := OG n l _ h
   refine ⟨fun q hq => ?_, ?_⟩
   · rcases List.mem_cons.1 hq with rfl | hq
     · exact ⟨by omega, by omega, jY c3, c2⟩
     · obtain ⟨a, b, c, d⟩ := i1 q hq
       exact ⟨a, b, c, fun hm => d (List.mem_append_left _ hm)⟩
   · rw [List.map_cons, List.nodup_cons]
     refine ⟨fun hm => ?_, i2⟩
     obtain ⟨q, hq, he⟩ := List.mem_map.1 hm
     exact (i1 q hq).2.2.2 (he ▸ List.mem_append_right _ (List.mem_singleton.2 rfl))
structure iL (r : Ru) (n : Nat) : Prop where
 guard : Cp r.guard n = (true, 0)
 few : r.sets.length ≤ 6
 sets : ∀ s ∈ r.sets, 0 ≤ s.var ∧ s.var < n ∧ (Cp s.val n).2 = 0
 once : (r.sets.map St.var).Nodup
theorem RQ {l : List Fo} {n : Int} {t : Bool} (h : Cn l n t = 0) : Cp l n = (t, 0) := by
 unfold Cn at h
 by_cases c : (Cp l n).2 ≠ 0
 · rw [if_pos c] at h; exact absurd h c
 rw [if_neg c] at h
 by_cases c2 : (Cp l n).1 ≠ t
 · rw [if_pos c2] at h; exact absurd h (by decide)
 · exact Prod.ext (jY c2) (jY c)
theorem Ym {m : Md} (h : AT m = 0) {r : Ru} (hr : r ∈ m.rules) : iL r m.vars.length := by
 have hv := BM h
 unfold AT at h
 rw [if_neg (fun k => k hv)] at h
 by_cases c : 12 < m.rules.length
 · rw [if_pos c] at h; exact absurd h (by decide)
 rw [if_neg c] at h
 have hf := Lw _ _ h r hr
 unfold EP at hf
 by_cases c1 : 6 < r.sets.length
 · rw [if_pos c1] at hf; exact absurd hf (by decide)
 rw [if_neg c1] at hf
 by_cases c2 : Cn r.guard m.vars.length true ≠ 0
 · rw [if_pos c2] at hf; exact absurd hf c2
 rw [if_neg c2] at hf
 obtain ⟨i1, i2⟩ := OG _ _ _ hf
 exact ⟨RQ (jY c2), by omega, fun s hs => ⟨(i1 s hs).1, (i1 s hs).2.1, by rw [RQ (i1 s hs).2.2.1]⟩, i2⟩
def IC (m : Md) (vs : List Int) (s : St) : Prop := (BS s.val vs).2 = 0 ∧ ∀ v, m.vars[s.var.toNat]? = some v → v.low ≤ (BS s.val vs).1 ∧ (BS s.val vs).1 ≤ v.high
def CG (vs : List Int) : List St → List Int → List Int
 | [], out => out
 | s :: l, out => CG vs l (out.set s.var.toNat (BS s.val vs).1)
theorem DJ (vs : List Int) : ∀ (l : List St) (out : List Int), (CG vs l out).length = out.length
 | [], _ => rfl
 | s :: l, out => by rw [CG, DJ vs l, List.length_set]
noncomputable instance (m : Md) (vs : List Int) (s : St) : Decidable (IC m vs s) := Classical.propDecidable _
noncomputable def CA (m : Md) (r : Ru) (vs : List Int) : Option (List Int) :=
 if BS r.guard vs = (1, 0) ∧ ∀ s ∈ r.sets, IC m vs s then some (CG vs r.sets vs) else none
noncomputable def Gq (m : Md) (code Dj : Int) : Int × Int :=
 if (BK m code).2 ≠ 0 then (0, (BK m code).2)
 else match (if 0 ≤ Dj then m.rules[Dj.toNat]? else none) with
  | none => (0, 2)
  | some r => match CA m r (BK m code).1 with
    | none => (0, 11)
    | some out => codeF m out
theorem Wx {l : List Fo} {vs : List Int} (h : Cp l vs.length = (true, 0)) (hv : ∀ v ∈ vs, AU v) : BS l vs = (0, 8) ∨ BS l vs = (0, 0) ∨ BS l vs = (1, 0) := by
 have h0 : (Cp l vs.length).2 = 0 := by rw [h]
 obtain ⟨g, _, _⟩ := No h0
 unfold BS
 rw [if_neg (fun k => k h0), if_pos hv]
 unfold wk
 cases hx : Bs l vs 0 with
 | none => exact .inl rfl
 | some n =>
   have hk : DM (Ag l 0) := by
    have := h
    unfold Cp at this
    by_cases c1 : (vs.length : Int) < 0 ∨ 6 < (vs.length : Int)
    · rw [if_pos c1] at this; exact absurd this (by simp)
    rw [if_neg c1, if_neg (fun k => k g.ends)] at this
    by_cases c2 : I5 l vs.length ≠ 0
    · rw [if_pos c2] at this; exact absurd (Prod.mk.inj this).1 (by simp)
    rw [if_neg c2, if_pos g.typed] at this
    exact of_decide_eq_true (Prod.mk.inj this).1
   rcases QA g.pos hk hx with rfl | rfl
   · exact .inr (.inl rfl)
   · exact .inr (.inr rfl)
def upd (vs : List Int) : List St → Nat → Int → Int
 | [], _, x => x
 | s :: l, i, x => upd vs l i (if s.var.toNat = i then (BS s.val vs).1 else x)
theorem Hu (vs : List Int) : ∀ (l : List St) (out : List Int) (i : Nat), (CG vs l out)[i]? = (out[i]?).map (upd vs l i)
 | [], out, i => by simp [CG, upd, Option.map_id']
 | s :: l, out, i => by
   rw [CG, Hu vs l, List.getElem?_set]
   by_cases e : s.var.toNat = i
   · subst e
     rw [if_pos rfl]
     by_cases h : s.var.toNat < out.length
     · rw [if_pos h, List.getElem?_eq_getElem h]; simp [upd]
     · rw [if_neg h, List.getElem?_eq_none jB]; rfl
   · rw [if_neg e]
     cases out[i]? with
     | none => rfl
     | some x => simp [upd, e]
theorem Z9 (vs : List Int) : ∀ (l : List St) (i : Nat) (x : Int), (∀ s ∈ l, s.var.toNat ≠ i) → upd vs l i x = x
 | [], _, _, _ => rfl
 | s :: l, i, x, h => by
   rw [upd, if_neg (h s List.mem_cons_self)]
   exact Z9 vs l i x fun q hq => h q (List.mem_cons_of_mem _ hq)
theorem VV (vs : List Int) : ∀ (l : List St) (i : Nat) (x : Int) (s : St), (∀ q ∈ l, 0 ≤ q.var) → (l.map St.var).Nodup → s ∈ l → s.var.toNat = i → upd vs l i x = (BS s.val vs).1
 | [], _, _, _, _, _, h, _ => by cases h
 | q :: l, i, x, s, h0, hn, hm, he => by
   rw [List.map_cons, List.nodup_cons] at hn
   rw [upd]
   by_cases e : q = s
   · subst e
     rw [if_pos he]
     refine Z9 vs l i _ fun r hr hre => hn.1 (List.mem_map.2 ⟨r, hr, ?_⟩)
     have h1 := h0 r (List.mem_cons_of_mem _ hr)
     have h2 := h0 q List.mem_cons_self
     omega
   · exact VV vs l i _ s (fun r hr => h0 r (List.mem_cons_of_mem _ hr)) hn.2 (by
      rcases List.mem_cons.1 hm with h | h
      · exact absurd h.symm e
      · exact h) he
theorem UH (vs : List Int) : ∀ (l : List St) (i : Nat) (x : Int), upd vs l i x = x ∨ ∃ s ∈ l, s.var.toNat = i ∧ upd vs l i x = (BS s.val vs).1
 | [], _, _ => .inl rfl
 | s :: l, i, x => by
   rw [upd]
   by_cases e : s.var.toNat = i
   · rw [if_pos e]
     rcases UH vs l i (BS s.val vs).1 with h | ⟨q, h1, h2, h3⟩
     · exact .inr ⟨s, List.mem_cons_self, e, h⟩
     · exact .inr ⟨q, List.mem_cons_of_mem _ h1, h2, h3⟩
   · rw [if_neg e]
     rcases UH vs l i x with h | ⟨q, h1, h2, h3⟩
     · exact .inl h
     · exact .inr ⟨q, List.mem_cons_of_mem _ h1, h2, h3⟩
theorem LD : ∀ (l : List Vr) (xs : List Int) (n : Int), (∀ (i : Nat) (h : i < l.length) (h' : i < xs.length), l[i].low ≤ xs[i] ∧ xs[i] ≤ l[i].high) → (DO n l xs).2 = 0
 | [], xs, n, _ => by simp [DO]
 | v :: l, [], n, _ => by simp [DO]
 | v :: l, x :: xs, n, h => by
   have h0 : v.low ≤ x ∧ x ≤ v.high := h 0 (by simp) (by simp)
   rw [DO, if_pos h0]
   exact LD l xs _ fun i h1 h2 => h (i + 1) (by simpa using h1) (by simpa using h2)
theorem Sb : ∀ (l : List Vr) (xs : List Int) (n : Int) (i : Nat) (h : i < l.length) (h' : i < xs.length), ¬ (l[i].low ≤ xs[i] ∧ xs[i] ≤ l[i].high) → DO n l xs = (0, 9)
 | [], _, _, _, h, _, _ => by simp at h
 | v :: l, [], _, _, _, h', _ => by simp at h'
 | v :: l, x :: xs, n, 0, _, _, hc => by
   have hc' : ¬ (v.low ≤ x ∧ x ≤ v.high) := hc
   rw [DO, if_neg hc']
 | v :: l, x :: xs, n, i + 1, h, h', hc => by
   rw [DO]
   split
   · exact Sb l xs _ i (by simpa using h) (by simpa using h') (by simpa using hc)
   · rfl
theorem Sa {l : List Vr} (g : Jn l) {c : Int} (h0 : 0 ≤ c) (hc : c < AR l) (i : Nat) (h : i < l.length) (h' : i < (B2 l c).length) : l[i].low ≤ (B2 l c)[i] ∧ (B2 l c)[i] ≤ l[i].high := by
 rw [LA l c i (fun v hv => (g.span v hv).1) h0 hc h h']
 have hs := (g.span l[i] (jb h)).1
 have m1 := Int.emod_nonneg (c / AR (l.drop (i + 1))) (show BL l[i] ≠ 0 by omega)
 have m2 := Int.emod_lt_of_pos (c / AR (l.drop (i + 1))) (show 0 < BL l[i] by omega)
 unfold BL at m1 m2 ⊢
 omega
end Go.Sp
namespace Go.Proofs.YtnlfhnbcdfdhgaaGreatDoor
open Go Go.Av Go.Sp
theorem Ct : Cal Tryz.prog 45 := Cal.of Tryz.func45 (by kernel_rfl) (by kernel_rfl)
theorem Ch : Cal Tryz.prog 62 := Cal.of Tryz.func62 (by kernel_rfl) (by kernel_rfl)
theorem aO ( l : List Fo) (props : Int) : ACr Tryz.prog GP 45 [.d (AO l), .int props] (.tup [.d (AJ (Ac l props).1), .int (Ac l props).2]) := by
 refine AK (ts := [4, 5]) 32 Tryz.func45 rfl rfl rfl (by simp) fun W I => ?_
 refine Bn (t := 0) rfl fun hl => ?_
 repeat' (first | refine ca HV (Check _ _) ?_ | refine ca Bv (ahead _ _) ?_ | exact jA | refine AF ?_ | refine two ?_ ?_ | refine AB fun c_ => ?_ | refine imp fun hc => ?_; try exact cx1 hc | refine all fun v_ => ?_)
 · refine AI (Cj (t := 4) 1 8 rfl) ?_
   ((with_reducible apply rq2); rfl; rfl; rfl)
   refine AA ?_
   rw [Ac, if_pos hc]; rfl
 have hs : Ac l props = (By l 0, 0) := by rw [Ac, if_neg hc]
 refine Db (E := 3) (sz := 1) AS ?_
 refine AG (X := Nat × Sl × List Int) (fun y => [(0, .d (AO l)), (7, .val y.2.1.v), (16, .d (AO l)), (17, .int l.length), (18, .int y.1)]) (fun y => [AL y.2.1.v 3 1 AS y.2.2]) (fun y => y.1 ≤ l.length ∧ y.2.2.length ≤ y.1 ∧ By l 0 = y.2.2 ++ By (l.drop y.1) y.1) (fun y => l.length - y.1) (0, Sl.nil, []) ⟨Nat.zero_le _, Nat.le_refl _, rfl⟩ (VS.of_le ?_) ?_
 · exact leD
 rintro ⟨i, v, out⟩ ⟨k1, k2, k3⟩
 dsimp only at k1 k2 k3 ⊢
 by_cases hi : i < l.length
 · rw [HW l i hi] at k3
   repeat' (first | refine ca HV (Check _ _) ?_ | refine ca Bv (ahead _ _) ?_ | exact jA | refine AF ?_ | refine two ?_ ?_ | refine AB fun c_ => ?_ | refine imp fun hc => ?_; try exact cx1 hc | refine all fun v_ => ?_)
   · rw [if_pos hc] at k3
     refine ⟨(i + 1, v_, out ++ [(i : Int)]), ⟨by dsimp only; omega, by simp; omega, by simpa using k3⟩, jC, VS.take BF ?_⟩
     exact leD
   · rw [if_neg hc] at k3
     refine ⟨(i + 1, v, out), ⟨by dsimp only; omega, jC, k3⟩, jC, VS.take BF ?_⟩
     exact leD
 · rw [Hj l i jB, List.append_nil] at k3
   repeat' (first | refine ca HV (Check _ _) ?_ | refine ca Bv (ahead _ _) ?_ | exact jA | refine AF ?_ | refine two ?_ ?_ | refine AB fun c_ => ?_ | refine imp fun hc => ?_; try exact cx1 hc | refine all fun v_ => ?_)
   refine AI (Bq (t := 4) (eb := 8) rfl rfl (fun x => rfl) jB) ?_
   ((with_reducible apply rq2); rfl; rfl; rfl)
   refine AA ?_
   rw [hs, k3]
theorem Qe (G : List (Nat × List D)) ( l : List Fo) (props : Int) : ACr Tryz.prog G 62 [.d (AO l), .int props] (.tup [.d (AJ (Ac l props).1), .int (Ac l props).2]) := by
 refine AK (ts := [4, 5]) 32 Tryz.func62 rfl rfl rfl (by simp) fun W I => ?_
 refine Bn (t := 0) rfl fun hl => ?_
 repeat' (first | refine ca Cr (FN _ _ _) ?_ | refine ca As (BW _ _) ?_ | exact jA | refine AF ?_ | refine two ?_ ?_ | refine AB fun c_ => ?_ | refine imp fun hc => ?_; try exact cx1 hc | refine all fun v_ => ?_)
 · refine AI (Cj (t := 4) 1 8 rfl) ?_
   ((with_reducible apply rq2); rfl; rfl; rfl)
   refine AA ?_
   rw [Ac, if_pos hc]; rfl
 have hs : Ac l props = (By l 0, 0) := by rw [Ac, if_neg hc]
 refine Db (E := 3) (sz := 1) AS ?_
 refine AG (X := Nat × Sl × List Int) (fun y => [(0, .d (AO l)), (7, .val y.2.1.v), (8, .int y.1)]) (fun y => [AL y.2.1.v 3 1 AS y.2.2]) (fun y => y.1 ≤ l.length ∧ y.2.2.length ≤ y.1 ∧ By l 0 = y.2.2 ++ By (l.drop y.1) y.1) (fun y => l.length - y.1) (0, Sl.nil, []) ⟨Nat.zero_le _, Nat.le_refl _, rfl⟩ (VS.of_le ?_) ?_
 · exact leD
 rintro ⟨i, v, out⟩ ⟨k1, k2, k3⟩
 dsimp only at k1 k2 k3 ⊢
 by_cases hi : i < l.length
 · rw [HW l i hi] at k3
   repeat' (first | refine ca Cr (FN _ _ _) ?_ | refine ca As (BW _ _) ?_ | exact jA | refine AF ?_ | refine two ?_ ?_ | refine AB fun c_ => ?_ | refine imp fun hc => ?_; try exact cx1 hc | refine all fun v_ => ?_)
   · rw [if_pos hc] at k3
     refine ⟨(i + 1, v_, out ++ [(i : Int)]), ⟨by dsimp only; omega, by simp; omega, by simpa using k3⟩, jC, VS.take BF ?_⟩
     exact leD
   · rw [if_neg hc] at k3
     refine ⟨(i + 1, v, out), ⟨by dsimp only; omega, jC, k3⟩, jC, VS.take BF ?_⟩
     exact leD
 · rw [Hj l i jB, List.append_nil] at k3
   repeat' (first | refine ca Cr (FN _ _ _) ?_ | refine ca As (BW _ _) ?_ | exact jA | refine AF ?_ | refine two ?_ ?_ | refine AB fun c_ => ?_ | refine imp fun hc => ?_; try exact cx1 hc | refine all fun v_ => ?_)
   refine AI (Bq (t := 4) (eb := 8) rfl rfl (fun x => rfl) jB) ?_
   ((with_reducible apply rq2); rfl; rfl; rfl)
   refine AA ?_
   rw [hs, k3]
end Go.Proofs.YtnlfhnbcdfdhgaaGreatDoor
namespace Go.Sp
open Go Go.Av
def eD (vs : List Int) (p : List Fo) : Bool := decide ((BS p vs).2 = 0) && decide ((BS p vs).1 = 1)
abbrev Jp (l : List (List Fo)) (vs : List Int) (i : Nat) : Bool := eD vs ((l[i]?).getD [])
noncomputable def Gm (m : Md) (l : List (List Fo)) (c : Int) : List Bool × Int :=
 if CF m l ≠ 0 then ([], CF m l) else if (BK m c).2 ≠ 0 then ([], (BK m c).2) else ((List.range l.length).map (Jp l (BK m c).1), 0)
theorem RU {l : List (List Fo)} {vs : List Int} {i : Nat} (h : i < l.length) {n e : Int} (he : BS l[i] vs = (n, e)) : Jp l vs i = (decide (e = 0) && decide (n = 1)) := by
 rw [Jp, List.getElem?_eq_getElem h, Option.getD_some, eD, he]
theorem Jx {m : Md} {l : List (List Fo)} (h : CF m l = 0) : AT m = 0 ∧ l.length ≤ 6 := by
 unfold CF at h
 by_cases c1 : AT m ≠ 0
 · rw [if_pos c1] at h; exact absurd h c1
 rw [if_neg c1] at h
 by_cases c2 : 6 < l.length
 · rw [if_pos c2] at h; exact absurd h (by decide)
 · exact ⟨jY c1, by omega⟩
end Go.Sp
namespace Go.Proofs.YtnlfhnbcdfdhgaaGreatDoor
open Go Go.Av Go.Sp
theorem Hm : Cal Tryz.prog 47 := Cal.of Tryz.func47 (by kernel_rfl) (by kernel_rfl)
theorem EK : Cal Tryz.prog 65 := Cal.of Tryz.func65 (by kernel_rfl) (by kernel_rfl)
theorem Fw : Cal Tryz.prog 75 := Cal.of Tryz.func75 (by kernel_rfl) (by kernel_rfl)
theorem Ci : Cal Tryz.prog 106 := Cal.of Tryz.func106 (by kernel_rfl) (by kernel_rfl)
theorem RA (m : Md) (l : List (List Fo)) (c : Int) : ACr Tryz.prog GP 47 [mdA m, .d (Ar l), .int c] (.tup [.d (Ap (Gm m l c).1), .int (Gm m l c).2]) := by
 have hP := dy m l
 have hV := aD m c
 have hfew := Jx (m := m) (l := l)
 unfold Gm
 generalize CF m l = e1 at hP hfew ⊢
 generalize BK m c = q at hV ⊢
 obtain ⟨vs, e2⟩ := q
 dsimp only at hV ⊢
 refine AK (ts := [6, 7]) Tryz.f47.ntmps Tryz.func47 rfl rfl rfl (by simp [Tryz.ntmps47]) fun W I => ?_
 by_cases h1 : e1 ≠ 0
 · repeat' (first | refine ca Gu (hP) ?_ | refine ca Eh (hV) ?_ | exact jA | refine AF ?_ | refine two ?_ ?_ | refine AB fun c_ => ?_ | refine imp fun hc => ?_; try exact cx1 hc | refine all fun v_ => ?_)
   refine AI (VS.trans jE (Cj (t := 6) 1 1 rfl)) ?_
   ((with_reducible apply rq2); rfl; rfl; rfl)
   refine AA ?_
   rw [if_pos h1]; rfl
 rw [if_neg h1]
 replace h1 := jY h1
 obtain ⟨_, hl6⟩ := hfew h1
 by_cases h2 : e2 ≠ 0
 · repeat' (first | refine ca Gu (hP) ?_ | refine ca Eh (hV) ?_ | exact jA | refine AF ?_ | refine two ?_ ?_ | refine AB fun c_ => ?_ | refine imp fun hc => ?_; try exact cx1 hc | refine all fun v_ => ?_)
   refine AI (VS.trans jE (Cj (t := 6) 1 1 rfl)) ?_
   ((with_reducible apply rq2); rfl; rfl; rfl)
   refine AA ?_
   rw [if_pos h2]; rfl
 rw [if_neg h2]
 repeat' (first | refine ca Gu (hP) ?_ | refine ca Eh (hV) ?_ | exact jA | refine AF ?_ | refine two ?_ ?_ | refine AB fun c_ => ?_ | refine imp fun hc => ?_; try exact cx1 hc | refine all fun v_ => ?_)
 refine AG (X := Nat × List Bool) (fun y => [(9, .d (AJ vs)), (11, .val (.slice (some ⟨v_, 0, none⟩) l.length l.length)), (34, .d (Ar l)), (35, .int l.length), (36, .int y.1)]) (fun y => [.cells v_ 4 (y.2.map AV.bool)]) (fun y => y.1 ≤ l.length ∧ Q7 (Jp l vs) l.length y.1 y.2) (fun y => l.length - y.1) (0, List.replicate l.length false) ⟨Nat.zero_le _, Q7.start _ _⟩ (VS.take AH ?_) ?_
 · exact leD
 rintro ⟨i, row⟩ ⟨d1, d2⟩
 dsimp only at d1 d2 ⊢
 have dl := d2.len
 by_cases hi : i < l.length
 · have hE := Eval l[i] vs
   have hx := fun n e he => RU (vs := vs) hi (n := n) (e := e) he
   generalize BS l[i] vs = q at hE hx
   obtain ⟨n, e⟩ := q
   dsimp only at hE
   have hx := hx n e rfl
   repeat' (first | refine ca FA (hE) ?_ | exact jA | refine AF ?_ | refine two ?_ ?_ | refine AB fun c_ => ?_ | refine imp fun hc => ?_; try exact cx1 hc | refine all fun v_ => ?_)
   all_goals
    refine ⟨(i + 1, row.set i _), ⟨by dsimp only; omega, d2.next ?_⟩, jC, VS.of_le ?_⟩
    rotate_left
    · exact leD
    rw [hx]; simp_all
 obtain rfl : i = l.length := by omega
 have hr := d2.fin
 repeat' (first | exact jA | refine AF ?_ | refine two ?_ ?_ | refine AB fun c_ => ?_ | refine imp fun hc => ?_; try exact cx1 hc | refine all fun v_ => ?_)
 refine AI (vfz (t := 6) (f := IA) (h1 := []) 1 1 rfl rfl rfl (GA row) dl (fun _ => rfl) jB jB) ?_
 ((with_reducible apply rq2); rfl; rfl; rfl)
 refine AA ?_
 rw [hr]
theorem II (G : List (Nat × List D)) (m : Md) (l : List (List Fo)) (c : Int) : ACr Tryz.prog G 65 [mdA m, .d (Ar l), .int c] (.tup [.d (Ap (Gm m l c).1), .int (Gm m l c).2]) := by
 have hP := Mj G m l
 have hV := RK G m c
 have hfew := Jx (m := m) (l := l)
 unfold Gm
 generalize CF m l = e1 at hP hfew ⊢
 generalize BK m c = q at hV ⊢
 obtain ⟨vs, e2⟩ := q
 dsimp only at hV ⊢
 refine AK (ts := [6, 7]) Tryz.f65.ntmps Tryz.func65 rfl rfl rfl (by simp [Tryz.ntmps65]) fun W I => ?_
 by_cases h1 : e1 ≠ 0
 · repeat' (first | refine ca DT (hP) ?_ | refine ca CV (hV) ?_ | exact jA | refine AF ?_ | refine two ?_ ?_ | refine AB fun c_ => ?_ | refine imp fun hc => ?_; try exact cx1 hc | refine all fun v_ => ?_)
   refine AI (VS.trans jE (Cj (t := 6) 1 1 rfl)) ?_
   ((with_reducible apply rq2); rfl; rfl; rfl)
   refine AA ?_
   rw [if_pos h1]; rfl
 rw [if_neg h1]
 replace h1 := jY h1
 obtain ⟨_, hl6⟩ := hfew h1
 by_cases h2 : e2 ≠ 0
 · repeat' (first | refine ca DT (hP) ?_ | refine ca CV (hV) ?_ | exact jA | refine AF ?_ | refine two ?_ ?_ | refine AB fun c_ => ?_ | refine imp fun hc => ?_; try exact cx1 hc | refine all fun v_ => ?_)
   refine AI (VS.trans jE (Cj (t := 6) 1 1 rfl)) ?_
   ((with_reducible apply rq2); rfl; rfl; rfl)
   refine AA ?_
   rw [if_pos h2]; rfl
 rw [if_neg h2]
 repeat' (first | refine ca DT (hP) ?_ | refine ca CV (hV) ?_ | exact jA | refine AF ?_ | refine two ?_ ?_ | refine AB fun c_ => ?_ | refine imp fun hc => ?_; try exact cx1 hc | refine all fun v_ => ?_)
 refine AG (X := Nat × Sl) (fun y => [(1, .d (Ar l)), (9, .d (AJ vs)), (10, .val y.2.v), (11, .int y.1)]) (fun y => [AL y.2.v 4 1 IA ((List.range y.1).map (Jp l vs))]) (fun y => y.1 ≤ l.length) (fun y => l.length - y.1) (0, Sl.nil) (Nat.zero_le _) (VS.trans (VS.nilrow 4 1) (VS.take AH ?_)) ?_
 · exact leD
 rintro ⟨i, q⟩ hi
 dsimp only at hi ⊢
 have hlj : ((List.range i).map (Jp l vs)).length = i := by simp
 by_cases hil : i < l.length
 · have hE := LY G l[i] vs
   have hx := fun n e he => RU (vs := vs) hil (n := n) (e := e) he
   generalize BS l[i] vs = q at hE hx
   obtain ⟨n, e⟩ := q
   dsimp only at hE
   have hx := hx n e rfl
   have hsn : ∀ b, Jp l vs i = b → (List.range i).map (Jp l vs) ++ [b] = (List.range (i + 1)).map (Jp l vs) := fun b hb => by rw [← hb]; simp [List.range_succ]
   repeat' (first | refine ca DH (hE) ?_ | exact jA | refine AF ?_ | refine two ?_ ?_ | refine AB fun c_ => ?_ | refine imp fun hc => ?_; try exact cx1 hc | refine all fun v_ => ?_)
   all_goals
    rw [hsn _ (by rw [hx]; simp_all)]
    refine ⟨(i + 1, v_), jC, jC, VS.of_le ?_⟩
    exact leD
 obtain rfl : i = l.length := by omega
 repeat' (first | exact jA | refine AF ?_ | refine two ?_ ?_ | refine AB fun c_ => ?_ | refine imp fun hc => ?_; try exact cx1 hc | refine all fun v_ => ?_)
 refine AI (Bq (t := 6) (eb := 1) rfl rfl (fun x => rfl) (by rw [hlj]; omega)) ?_
 ((with_reducible apply rq2); rfl; rfl; rfl)
 exact AA rfl
end Go.Proofs.YtnlfhnbcdfdhgaaGreatDoor
namespace Go.Av
open Go
def Eg (w : World) (I : Nat → Prop) : List D → List Value → Prop
 | [], [] => True
 | x :: xs, c :: cs => Rel w I x c ∧ Eg w I xs cs
 | _, _ => False
theorem Eg.length {w : World} {I : Nat → Prop} : ∀ {xs : List D} {cs : List Value}, Eg w I xs cs → xs.length = cs.length
 | [], [], _ => rfl
 | _ :: _, _ :: _, ⟨_, h⟩ => by simp [Eg.length h]
theorem Eg.get {w : World} {I : Nat → Prop} : ∀ {xs : List D} {cs : List Value}, Eg w I xs cs → ∀ (u : Nat) (x : D), xs[u]? = some x → ∃ c, cs[u]? = some c ∧ Rel w I x c
 | [], [], _, _, _, h => by simp at h
 | x :: xs, c :: cs, ⟨h1, h2⟩, u, y, h => by
   cases u with
   | zero => simp at h; subst h; exact ⟨c, rfl, h1⟩
   | succ u => simpa using Eg.get h2 u y (by simpa using h)
theorem Eg.append {w : World} {I : Nat → Prop} : ∀ {xs ys : List D} {cs ds : List Value}, Eg w I xs cs → Eg w I ys ds → Eg w I (xs ++ ys) (cs ++ ds)
 | [], _, [], _, _, h => h
 | _ :: _, _, _ :: _, _, ⟨h1, h2⟩, h => ⟨h1, Eg.append h2 h⟩
theorem Eg.av {w : World} {I : Nat → Prop} : ∀ {xs : List D} {cs : List Value}, Eg w I xs cs → AV.rels w I (xs.map D.av) cs
 | [], [], _ => trivial
 | _ :: _, _ :: _, ⟨h1, h2⟩ => ⟨D.av_rel h1, Eg.av h2⟩
def B5 (P : Program) : Nat → TypeId → List D → Prop
 | 0, _, _ => False
 | fuel + 1, t, xs =>
   match P.underlying t with
   | some .bool => ∃ b, xs = [.b b]
   | some (.int k) => ∃ n, xs = [.i k n] ∧ (Lit.int k n).wf = true
   | some .string => ∃ s, xs = [.s s] ∧ s.size ≤ 140737488355328
   | some (.slice e) => ∃ rows, xs = [.l (P.cellsOf e) (P.bytesOf e) rows] ∧ (∀ r ∈ rows, B5 P fuel e r) ∧ rows.length * P.bytesOf e ≤ 140737488351232
   | some (.struct fs) => ∃ parts : List (List D), xs = parts.flatten ∧ parts.length = fs.size ∧ ∀ (i : Nat) (f : Field) (p : List D), fs[i]? = some f → parts[i]? = some p → B5 P fuel f.type p
   | some (.array n e) => ∃ parts : List (List D), xs = parts.flatten ∧ parts.length = n ∧ ∀ p ∈ parts, B5 P fuel e p
   | _ => False
def Pz (P : Program) : Nat → List Field → Bool
 | _, [] => true
 | off, f :: fs => f.offset == off && Pz P (off + P.cellsOf f.type) fs
def Gs (P : Program) : Nat → TypeId → Bool
 | 0, _ => false
 | fuel + 1, t =>
   match P.underlying t with
   | some .bool | some (.int _) | some .string => true
   | some (.slice e) => decide (0 < P.cellsOf e) && Gs P fuel e
   | some (.struct fs) => Pz P 0 fs.toList && (fs.toList.map fun f => P.cellsOf f.type).sum == P.cellsOf t && fs.toList.all fun f => Gs P fuel f.type
   | some (.array n e) => P.cellsOf t == n * P.cellsOf e && Gs P fuel e
   | _ => false
theorem F9 {H : Type} {P : Program} {e : TypeId} : ∀ {ds : List (DataW H)} {d : DataW H}, d ∈ ds → ∀ x ∈ d.weights P e, x ∈ DataW.weightsAll P e ds
 | d' :: ds, d, h, x, hx => by
   simp only [DataW.weightsAll, List.mem_append]
   rcases List.mem_cons.1 h with rfl | h
   · exact .inl hx
   · exact .inr (F9 h x hx)
theorem ID {H : Type} {P : Program} : ∀ {ts : List TypeId} {ds : List (DataW H)} (i : Nat) (t : TypeId) (d : DataW H), ts[i]? = some t → ds[i]? = some d → ∀ x ∈ d.weights P t, x ∈ DataW.weightsEach P ts ds
 | [], _, i, t, d, h, _, _, _ => by simp at h
 | _ :: _, [], i, t, d, _, h, _, _ => by simp at h
 | t' :: ts, d' :: ds, i, t, d, h1, h2, x, hx => by
   simp only [DataW.weightsEach, List.mem_append]
   cases i with
   | zero => simp at h1 h2; subst h1; subst h2; exact .inl hx
   | succ i => exact .inr (ID i t d (by simpa using h1) (by simpa using h2) x hx)
theorem mapM_length {α β : Type} {f : α → Option β} : ∀ {l : List α} {r : List β}, l.mapM f = some r → r.length = l.length
 | [], r, h => by simp at h; subst h; rfl
 | x :: l, r, h => by
   simp only [List.mapM_cons, Option.bind_eq_bind, Option.bind_eq_some_iff, Option.pure_def, Option.some.injEq] at h
   obtain ⟨b, _, r', hr', rfl⟩ := h
   simp [mapM_length hr']
theorem Ia {w : World} {a : Addr} {n : Nat} {cs : List Value} (h : w.cells? 0 a n = some cs) : cs.length = n ∧ ∀ (u : Nat) (c : Value), cs[u]? = some c → w.cell? (a.add u) = some c := by
 unfold World.cells? at h
 simp only [Nat.zero_le, if_true] at h
 have hl := mapM_length h
 simp at hl
 refine ⟨hl, fun u c hc => ?_⟩
 have hu : u < n := by rw [← hl]; exact (List.getElem?_eq_some_iff.1 hc).1
 obtain ⟨b, hb, hf⟩ := Lib.mapM_at h u u (by simp [hu])
 rw [hc] at hb
 cases hb
 exact hf
mutual
def D.bulk : D → Nat
 | .l _ _ rows => HK rows + 1
 | .s x => x.size + 1
 | _ => 1
def C1 : List D → Nat
 | [] => 0
 | x :: xs => x.bulk + C1 xs
def HK : List (List D) → Nat
 | [] => 0
 | r :: rs => C1 r + HK rs
end
theorem KN : ∀ xs ys : List D, C1 (xs ++ ys) = C1 xs + C1 ys
 | [], ys => by simp [C1]
 | x :: xs, ys => by rw [List.cons_append, C1, C1, KN xs ys]; omega
theorem Gt : ∀ rows : List (List D), C1 rows.flatten = HK rows
 | [] => by simp [C1, HK]
 | r :: rows => by rw [List.flatten_cons, KN, HK, Gt rows]
theorem Ke {β : Type} {f : β → List D} {g : β → Nat} : ∀ {l : List β}, (∀ i ∈ l, C1 (f i) ≤ g i) → HK (l.map f) ≤ (l.map g).sum
 | [], _ => by simp [HK]
 | i :: l, h => by
   have := Ke (l := l) fun j hj => h j (List.mem_cons_of_mem _ hj)
   have := h i (by simp)
   simp only [List.map_cons, HK, List.sum_cons]
   omega
structure FD {H : Type} (B : DataW H → Nat) : Prop where
 lit : ∀ l, 1 ≤ B (.lit l)
 str : ∀ l, l.length + 1 ≤ B (.lit (.string l))
 nil : 1 ≤ B .nil
 slice : ∀ es sp, (es.map B).sum + 1 ≤ B (.slice es sp)
 agg : ∀ ps, (ps.map B).sum + 1 ≤ B (.agg ps)
theorem RB {H : Type} {enc : TypeId × Value → H} {P : Program} {W : World} (B : DataW H → Nat) : ∀ (g : Nat) (fuel : Nat) (t : TypeId) (cs : List Value) (d : DataW H) (ps : List MemPlace),
 DataW.trod enc P W 0 (fun _ => true) true fuel t cs = some (d, ps) → Gs P g t = true → (∀ x ∈ d.weights P t, x ≤ reachBytes) → ∃ xs, Eg W (fun b => b < W.heap.size) xs cs ∧ B5 P g t xs ∧ (FD B → C1 xs ≤ B d)
 | 0, _, _, _, _, _, _, h, _ => by simp [Gs] at h
 | g + 1, fuel, t, cs, d, ps, h, hp, hw => by
   unfold Gs at hp
   unfold B5
   cases hu : P.underlying t with
   | none => rw [hu] at hp; simp at hp
   | some td =>
     rw [hu] at hp
     cases td with
     | bool =>
       obtain ⟨b, rfl, he⟩ := DataW.trod_bool hu h
       refine ⟨[.b b], ⟨.b b, trivial⟩, ⟨b, rfl⟩, fun hB => ?_⟩
       cases he
       simpa [C1, D.bulk] using hB.lit _
     | int k =>
       obtain ⟨n, rfl, he, hwf⟩ := DataW.trod_int hu h
       refine ⟨[.i k n], ⟨.i k n, trivial⟩, ⟨n, rfl, hwf⟩, fun hB => ?_⟩
       cases he
       simpa [C1, D.bulk] using hB.lit _
     | string =>
       obtain ⟨s, rfl, he, hs⟩ := DataW.trod_string hu h
       cases he
       have := hw s.data.toList.length (by unfold DataW.weights; exact List.mem_singleton.2 rfl)
       simp only [reachBytes] at this
       have e : s.size = s.data.toList.length := by rw [Array.length_toList]; rfl
       refine ⟨[.s s], ⟨.s s, trivial⟩, ⟨s, rfl, by omega⟩, fun hB => ?_⟩
       have := hB.str s.data.toList
       simp only [C1, D.bulk]
       omega
     | slice e =>
       simp only [Bool.and_eq_true, decide_eq_true_eq] at hp
       obtain ⟨hc0, hpe⟩ := hp
       rcases Go.Deep.open_slice hu h with ⟨rfl, he⟩ | ⟨a, len, cap, m, n, Df, Pl, rfl, _, hlc, hcm, hm, hx, hel⟩
       · refine ⟨[.l (P.cellsOf e) (P.bytesOf e) []], ⟨.nil _ _, trivial⟩, ⟨[], rfl, by simp, by simp⟩, fun hB => ?_⟩
         cases he
         simpa [C1, D.bulk, HK] using hB.nil
       · simp only [if_true] at hm
         subst hm
         have hd : d = .slice ((List.range len).map Df) ((List.range (m - len)).map fun j => Df (len + j)) := congrArg Prod.fst hx
         subst hd
         simp only [DataW.weights, hu] at hw
         have hbytes := hw _ (List.mem_cons_self ..)
         simp only [List.length_map, List.length_range, reachBytes] at hbytes
         have key : ∀ i, ∃ r : List D, i < len → ∃ cs', W.cells? 0 (a.add (i * P.cellsOf e)) (P.cellsOf e) = some cs' ∧ Eg W (fun b => b < W.heap.size) r cs' ∧ B5 P g e r ∧ (FD B → C1 r ≤ B (Df i)) := fun i => by
          by_cases hi : i < len
          · obtain ⟨cs', hcs, htr⟩ := hel i jB
            obtain ⟨r, h1, h2, h3⟩ := RB B g n e cs' (Df i) (Pl i) htr hpe fun x hx' => hw x (List.mem_cons_of_mem _ (List.mem_append.2 (.inl (F9 (List.mem_map.2 ⟨i, List.mem_range.2 hi, rfl⟩) x hx'))))
            exact ⟨r, fun _ => ⟨cs', hcs, h1, h2, h3⟩⟩
          · exact ⟨[], fun h => absurd h hi⟩
         let rf : Nat → List D := fun i => Classical.choose (key i)
         have hrf : ∀ i, i < len → ∃ cs', W.cells? 0 (a.add (i * P.cellsOf e)) (P.cellsOf e) = some cs' ∧ Eg W (fun b => b < W.heap.size) (rf i) cs' ∧ B5 P g e (rf i) ∧ (FD B → C1 (rf i) ≤ B (Df i)) := fun i => Classical.choose_spec (key i)
         have hget : ∀ (j : Nat) (r : List D), ((List.range len).map rf)[j]? = some r → j < len ∧ r = rf j := fun j r hj => by
          have hlt : j < len := by
           have := (List.getElem?_eq_some_iff.1 hj).1
           simpa using this
          rw [List.getElem?_map, List.getElem?_range hlt] at hj
          simp at hj
          exact ⟨hlt, hj.symm⟩
         have hlen : ((List.range len).map rf).length = len := by simp
         have hconf : ∀ r ∈ (List.range len).map rf, B5 P g e r := fun r hr => by
          obtain ⟨i, hi, rfl⟩ := List.mem_map.1 hr
          obtain ⟨_, _, _, h3, _⟩ := hrf i (List.mem_range.1 hi)
          exact h3
         have hsz : ∀ r ∈ (List.range len).map rf, r.length = P.cellsOf e := fun r hr => by
          obtain ⟨i, hi, rfl⟩ := List.mem_map.1 hr
          obtain ⟨cs', h1, h2, _⟩ := hrf i (List.mem_range.1 hi)
          rw [h2.length]; exact (Ia h1).1
         have hlb : len * P.bytesOf e ≤ 140737488351232 := Nat.le_trans (Nat.mul_le_mul_right _ (show len ≤ len + (m - len) by omega)) hbytes
         have hbk : FD B → C1 [.l (P.cellsOf e) (P.bytesOf e) ((List.range len).map rf)] ≤ B (.slice ((List.range len).map Df) ((List.range (m - len)).map fun j => Df (len + j))) := fun hB => by
          have h1 := Ke (f := rf) (g := fun i => B (Df i)) (l := List.range len) fun i hi => by
           obtain ⟨_, _, _, _, h3⟩ := hrf i (List.mem_range.1 hi)
           exact h3 hB
          have h2 := hB.slice ((List.range len).map Df) ((List.range (m - len)).map fun j => Df (len + j))
          rw [List.map_map] at h2
          simp only [C1, D.bulk]
          simp only [Function.comp_def] at h2
          omega
         refine ⟨[.l (P.cellsOf e) (P.bytesOf e) ((List.range len).map rf)], ⟨?_, trivial⟩, ⟨_, rfl, hconf, by rw [hlen]; exact hlb⟩, hbk⟩
         by_cases hm0 : m = 0
         · have h0 : len = 0 := by omega
           subst h0; subst hm0
           exact .emp _ _ a
         · have hcell : ∃ v, W.cell? a = some v := by
            obtain ⟨cs', hcs, _⟩ := hel 0 jB
            obtain ⟨h1, h2⟩ := Ia hcs
            rw [Nat.zero_mul] at h2
            have h0 : 0 < cs'.length := by omega
            exact ⟨cs'[0], by have := h2 0 _ (List.getElem?_eq_getElem h0); simpa [Addr.add] using this⟩
           obtain ⟨v, hv⟩ := hcell
           have hblk : a.block < W.heap.size := World.block_lt_of_cell? _ _ hv
           let css : Nat → Nat → Value := fun j u => (W.cell? (a.add (j * P.cellsOf e + u))).getD undef
           have hval : ∀ (j u : Nat) (r : List D) (x : D), ((List.range len).map rf)[j]? = some r → r[u]? = some x → W.cell? (a.add (j * P.cellsOf e + u)) = some (css j u) ∧ Rel W (fun b => b < W.heap.size) x (css j u) := fun j u r x hj hx => by
            obtain ⟨hlt, rfl⟩ := hget j r hj
            obtain ⟨cs', h1, h2, _⟩ := hrf j hlt
            obtain ⟨c, hc, hrel⟩ := h2.get u x hx
            have hcell := (Ia h1).2 u c hc
            rw [Addr.add_add] at hcell
            simp only [css, hcell, Option.getD_some]
            exact ⟨trivial, hrel⟩
           have := Rel.l (w := W) (I := fun b => b < W.heap.size) (P.cellsOf e) (P.bytesOf e) ((List.range len).map rf) a m css hblk (by rw [hlen]; exact hlc) hcm (by rw [hlen]; omega) hsz (fun j u r x hj hx => (hval j u r x hj hx).1) (fun j u r x hj hx => (hval j u r x hj hx).2)
           rwa [hlen] at this
     | struct fs =>
       simp only [Bool.and_eq_true, List.all_eq_true, beq_iff_eq] at hp
       obtain ⟨⟨hco, hsum⟩, hpf⟩ := hp
       obtain ⟨ys, n, _, hx, hlc, hyl, hf⟩ := DataW.trod_struct hu h
       have hd : d = .agg (ys.map (·.1)) := congrArg Prod.fst hx
       subst hd
       simp only [DataW.weights, hu] at hw
       have key : ∀ i : Nat, ∃ r : List D, ∀ f : Field, fs[i]? = some f → Eg W (fun b => b < W.heap.size) r ((cs.drop f.offset).take (P.cellsOf f.type)) ∧ B5 P g f.type r ∧ (FD B → C1 r ≤ ((ys[i]?).map fun y => B y.1).getD 0) := fun i => by
        cases hfi : fs[i]? with
        | none => exact ⟨[], fun f hff => absurd hff (by simp)⟩
        | some f =>
          have hi : i < fs.size := (Array.getElem?_eq_some_iff.1 hfi).1
          have hyi : ys[i]? = some ys[i] := List.getElem?_eq_getElem jB
          have htr := hf i f hfi
          rw [hyi] at htr
          have hmem : f ∈ fs.toList := by
           rw [← Array.getElem?_toList] at hfi
           exact List.mem_of_getElem? hfi
          obtain ⟨r, h1, h2, h3⟩ := RB B g n f.type _ (ys[i]).1 (ys[i]).2 htr (hpf f hmem) fun x hx' => hw x (ID i f.type (ys[i]).1 (by rw [List.getElem?_map, Array.getElem?_toList, hfi]; rfl) (by rw [List.getElem?_map, hyi]; rfl) x hx')
          exact ⟨r, fun f' hf' => by rw [← Option.some.inj hf']; exact ⟨h1, h2, fun hB => by rw [hyi]; exact h3 hB⟩⟩
       let pf : Nat → List D := fun i => Classical.choose (key i)
       have hpf' : ∀ (i : Nat) (f : Field), fs[i]? = some f → Eg W (fun b => b < W.heap.size) (pf i) ((cs.drop f.offset).take (P.cellsOf f.type)) ∧ B5 P g f.type (pf i) ∧ (FD B → C1 (pf i) ≤ ((ys[i]?).map fun y => B y.1).getD 0) := fun i => Classical.choose_spec (key i)
       have walk : ∀ (l : List Field) (i off : Nat), (∀ j f, l[j]? = some f → fs[i + j]? = some f) → Pz P off l = true → off + (l.map fun f => P.cellsOf f.type).sum = cs.length → Eg W (fun b => b < W.heap.size) ((List.range' i l.length).map pf).flatten (cs.drop off) := by
        intro l
        induction l with
        | nil => intro i off _ _ hs; simp at hs; subst hs; simp [Eg]
        | cons f l ih =>
          intro i off hl hc hs
          simp only [Pz, Bool.and_eq_true, beq_iff_eq] at hc
          obtain ⟨ho, hc⟩ := hc
          simp only [List.map_cons, List.sum_cons] at hs
          have h0 := (hpf' i f (by simpa using hl 0 f rfl)).1
          rw [ho] at h0
          have h1 := ih (i + 1) (off + P.cellsOf f.type) (fun j f' hj => by have := hl (j + 1) f' (by simpa using hj); rwa [← Nat.add_assoc, Nat.add_right_comm] at this) hc jB
          rw [List.length_cons, List.range'_succ, List.map_cons, List.flatten_cons]
          have e : cs.drop off = (cs.drop off).take (P.cellsOf f.type) ++ cs.drop (off + P.cellsOf f.type) := by
           rw [← List.drop_drop, List.take_append_drop]
          rw [e]
          exact h0.append h1
       have hbk : FD B → C1 ((List.range' 0 fs.size).map pf).flatten ≤ B (.agg (ys.map (·.1))) := fun hB => by
        have h1 := Ke (f := pf) (g := fun i => ((ys[i]?).map fun y => B y.1).getD 0) (l := List.range' 0 fs.size) fun i hi => by
         have hi : i < fs.size := by simpa using hi
         exact (hpf' i fs[i] (Array.getElem?_eq_getElem hi)).2.2 hB
        have h2 := hB.agg (ys.map (·.1))
        rw [List.map_map] at h2
        have e : (List.range' 0 fs.size).map (fun i => ((ys[i]?).map fun y => B y.1).getD 0) = ys.map (B ∘ (·.1)) := by
         apply List.ext_getElem
         · simp [hyl]
         · intro i h1 h2
           have hi : i < ys.length := by simpa using h2
           simp [List.getElem?_eq_getElem hi]
        rw [e] at h1
        rw [Gt]
        omega
       refine ⟨((List.range' 0 fs.size).map pf).flatten, ?_, ⟨(List.range' 0 fs.size).map pf, rfl, by simp, fun i f p hfi hpi => ?_⟩, hbk⟩
       · have := walk fs.toList 0 0 (fun j f hj => by simpa using hj) hco (by rw [hlc, ← hsum]; simp)
         simpa using this
       · have hi : i < fs.size := (Array.getElem?_eq_some_iff.1 hfi).1
         rw [List.getElem?_map, List.getElem?_range' hi] at hpi
         simp at hpi
         subst hpi
         exact (hpf' i f hfi).2.1
     | array m e =>
       simp only [Bool.and_eq_true, beq_iff_eq] at hp
       obtain ⟨hsum, hpe⟩ := hp
       obtain ⟨ys, n, _, hx, hlc, hyl, hf⟩ := DataW.trod_array hu h
       have hd : d = .agg (ys.map (·.1)) := congrArg Prod.fst hx
       subst hd
       simp only [DataW.weights, hu] at hw
       have key : ∀ i : Nat, ∃ r : List D, i < m → Eg W (fun b => b < W.heap.size) r ((cs.drop (i * P.cellsOf e)).take (P.cellsOf e)) ∧ B5 P g e r ∧ (FD B → C1 r ≤ ((ys[i]?).map fun y => B y.1).getD 0) := fun i => by
        by_cases hi : i < m
        · have hil : i < ys.length := by omega
          have hyi : ys[i]? = some ys[i] := List.getElem?_eq_getElem hil
          have htr := hf i hi
          rw [hyi] at htr
          obtain ⟨r, h1, h2, h3⟩ := RB B g n e _ (ys[i]).1 (ys[i]).2 htr hpe fun x hx' => hw x (F9 (List.mem_map.2 ⟨_, jb hil, rfl⟩) x hx')
          exact ⟨r, fun _ => ⟨h1, h2, fun hB => by rw [hyi]; exact h3 hB⟩⟩
        · exact ⟨[], fun h => absurd h hi⟩
       let pf : Nat → List D := fun i => Classical.choose (key i)
       have hpf' : ∀ i : Nat, i < m → Eg W (fun b => b < W.heap.size) (pf i) ((cs.drop (i * P.cellsOf e)).take (P.cellsOf e)) ∧ B5 P g e (pf i) ∧ (FD B → C1 (pf i) ≤ ((ys[i]?).map fun y => B y.1).getD 0) := fun i => Classical.choose_spec (key i)
       have walk : ∀ (k i : Nat), i + k = m → Eg W (fun b => b < W.heap.size) ((List.range' i k).map pf).flatten (cs.drop (i * P.cellsOf e)) := by
        intro k
        induction k with
        | zero =>
          intro i hi
          have : cs.length ≤ i * P.cellsOf e := by rw [hlc, hsum, show i = m by omega]; exact Nat.le_refl _
          rw [List.drop_of_length_le this]; simp [Eg]
        | succ k ih =>
          intro i hi
          have h0 := (hpf' i jB).1
          have h1 := ih (i + 1) jB
          rw [Nat.succ_mul] at h1
          rw [List.range'_succ, List.map_cons, List.flatten_cons]
          have e : cs.drop (i * P.cellsOf e) = (cs.drop (i * P.cellsOf e)).take (P.cellsOf e) ++ cs.drop (i * P.cellsOf e + P.cellsOf e) := by
           rw [← List.drop_drop, List.take_append_drop]
          rw [e]
          exact h0.append h1
       have hbk : FD B → C1 ((List.range' 0 m).map pf).flatten ≤ B (.agg (ys.map (·.1))) := fun hB => by
        have h1 := Ke (f := pf) (g := fun i => ((ys[i]?).map fun y => B y.1).getD 0) (l := List.range' 0 m) fun i hi => by
         have hi : i < m := by simpa using hi
         exact (hpf' i hi).2.2 hB
        have h2 := hB.agg (ys.map (·.1))
        rw [List.map_map] at h2
        have e : (List.range' 0 m).map (fun i => ((ys[i]?).map fun y => B y.1).getD 0) = ys.map (B ∘ (·.1)) := by
         apply List.ext_getElem
         · simp [hyl]
         · intro i h1 h2
           have hi : i < ys.length := by simpa using h2
           simp [List.getElem?_eq_getElem hi]
        rw [e] at h1
        rw [Gt]
        omega
       refine ⟨((List.range' 0 m).map pf).flatten, ?_, ⟨(List.range' 0 m).map pf, rfl, by simp, fun p hp => ?_⟩, hbk⟩
       · have := walk m 0 jB
         rwa [Nat.zero_mul, List.drop_zero] at this
       · obtain ⟨i, hi, rfl⟩ := List.mem_map.1 hp
         exact (hpf' i (by simpa using hi)).2.1
     | _ => simp at hp
def Fg (P : Program) (t : TypeId) : Bool := match P.underlying t with | some (.struct _) | some (.array _ _) => true | _ => false
def eI : List D → AV
 | [x] => x.av
 | _ => .any
def PO (b : Bool) (xs : List D) : AV := if b then .agg (xs.map D.av) else eI xs
theorem cB {P : Program} {W : World} {I : Nat → Prop} {g base : Nat} {t : TypeId} {xs : List D} {v : Value} (hc : B5 P g t xs) (hr : Eg W I xs v.cells.toList) (ho : Value.okWide P W .any base t v) : AV.rel W I (PO (Fg P t) xs) v := by
 cases g with
 | zero => exact hc.elim
 | succ g =>
   unfold B5 at hc
   unfold PO Fg
   have one : ∀ {x : D}, xs = [x] → v.oneCell' = true → AV.rel W I (eI xs) v := fun hx hv => by
    subst hx
    rw [cells_one hv] at hr
    exact D.av_rel hr.1
   cases hu : P.underlying t with
   | none => rw [hu] at hc; exact hc.elim
   | some td =>
     rw [hu] at hc
     cases td with
     | bool => obtain ⟨b, hx⟩ := hc; obtain ⟨_, rfl⟩ := WideShapes.okWide_bool hu ho; simp only [Bool.false_eq_true, if_false]; exact one hx rfl
     | int k => obtain ⟨n, hx, _⟩ := hc; obtain ⟨_, rfl⟩ := WideShapes.okWide_int hu ho; simp only [Bool.false_eq_true, if_false]; exact one hx rfl
     | string => obtain ⟨s, hx, _⟩ := hc; obtain ⟨_, rfl⟩ := WideShapes.okWide_string hu ho; simp only [Bool.false_eq_true, if_false]; exact one hx rfl
     | slice e => obtain ⟨rows, hx, _⟩ := hc; obtain ⟨_, _, _, rfl⟩ := WideShapes.okWide_slice hu ho; simp only [Bool.false_eq_true, if_false]; exact one hx rfl
     | struct fs =>
       unfold Value.okWide at ho
       rw [hu] at ho
       obtain ⟨cs, rfl, _, _⟩ := ho
       simp only [if_true]
       exact ⟨cs.toList, by simp, hr.av⟩
     | array n e =>
       unfold Value.okWide at ho
       rw [hu] at ho
       obtain ⟨cs, rfl, _, _⟩ := ho
       simp only [if_true]
       exact ⟨cs.toList, by simp, hr.av⟩
     | _ => exact hc.elim
section
open Go.RowKit Go.WideShapes Go.ChangeShapes
variable {H : Type} {enc : TypeId × Value → H} {P : Program}
theorem OP {f : Func} {s : ChangeSpec} {apart fresh handsOn again : Bool} {W W' : World} {args : Array Value} {v : Value} {ds gs : List (DataW H)} {before pa pv : List MemPlace}
 (hW : DataW.Whole enc P f.params.toList s.vars apart W args.toList ds gs before)
 (hres : ∀ (b : Nat) (sp : Nat → Bool) (hd : Bool), DataW.TrodAll enc P W' b sp hd f.resultTypes.toList (v.resultList f.resultTypes.size) (s.fn H (ds ++ gs)).results [])
 (hargs : ∀ sp : Nat → Bool, (∀ p ∈ before, sp p.block = true) → DataW.TrodAll enc P W' 0 sp true f.params.toList args.toList (s.fn H (ds ++ gs)).args pa)
 (hvars : ∀ sp : Nat → Bool, (∀ p ∈ before, sp p.block = true) → DataW.TrodVars enc P W' sp s.vars (s.fn H (ds ++ gs)).vars pv)
 (hps : before = pa ++ pv) (hb : Below W.heap.size W W')
 (hok : ∀ (j : Nat) (t : TypeId) (r : Value), f.resultTypes[j]? = some t → (v.resultList f.resultTypes.size)[j]? = some r → Value.okWide P W' .any 0 t r) :
 s.post enc P f apart fresh handsOn again W args v W' := by
 have hlt : ∀ p ∈ before, p.block < W.heap.size := fun p hp => hW.lt p hp
 have hold : ∀ p ∈ before, (fun b => decide (b < W.heap.size)) p.block = true := fun p hp => by simpa using hlt p hp
 refine ⟨ds, gs, before, [], pa, pv, hW, hres _ _ _, hargs _ hold, hvars _ hold, World.keptBut_mono (fun p hp => ⟨hp, ?_⟩) (hb.frame (· ∈ before)), fun _ => ?_⟩
 · rw [hps, List.mem_append] at hp
   exact Or.inr hp
 · obtain ⟨_, _, _, _, _, hz, hn⟩ := hW
   refine ⟨hok, _, _, ([] ++ pa) ++ pv, ⟨[] ++ pa, pv, trodAll_append (hargs _ (fun _ _ => rfl)) (hres _ _ _), hvars _ (fun _ _ => rfl), rfl, ?_, ?_⟩, ?_⟩
   · intro b off hp
     have hin : MemPlace.cell b off ∈ before := by rw [hps]; simpa using hp
     rw [hb.frozen (hlt _ hin)]
     exact hz b off hin
   · intro ha
     have := hn ha
     rw [hps] at this
     simpa using this
   · intro p hp _
     rw [hps]
     simpa using hp
theorem Jg (hl : laidOutB P = true) {W W' : World} : ∀ {ts : List TypeId} {vs : List Value} {ds : List (DataW H)} {ps : List MemPlace}, (∀ t ∈ ts, P.readableRec t = true ∧ t < P.types.size) → DataW.TrodAll enc P W 0 (fun _ => true) true ts vs ds ps → (∀ p ∈ ps, W.sameAt W' p) →
 ∀ sp : Nat → Bool, (∀ p ∈ ps, sp p.block = true) → DataW.TrodAll enc P W' 0 sp true ts vs ds ps
 | [], [], [], _, _, h, _, _, _ => h
 | t :: ts, v :: vs, d :: ds, ps, ht, ⟨p, q, h1, h2, e⟩, hs, sp, hsp => by
   subst e
   exact ⟨p, q, WideElems.Trod_stays hl (ht t (by simp)).1 (ht t (by simp)).2 h1 (fun x hx => hs x (by simp [hx])) (fun x hx => hsp x (by simp [hx])),
    Jg hl (fun t ht' => ht t (by simp [ht'])) h2 (fun x hx => hs x (by simp [hx])) sp (fun x hx => hsp x (by simp [hx])), rfl⟩
theorem PX {W : World} {base g : Nat} (B : DataW H → Nat) : ∀ {ts : List TypeId} {vs : List Value} {ds : List (DataW H)} {ps : List MemPlace}, (∀ t ∈ ts, Gs P g t = true) → DataW.TrodAll enc P W 0 (fun _ => true) true ts vs ds ps →
 (∀ (j : Nat) t v, ts[j]? = some t → vs[j]? = some v → Value.okWide P W .any base t v) → (∀ x ∈ DataW.weightsEach P ts ds, x ≤ reachBytes) →
 ∃ xss : List (List D), xss.length = ts.length ∧ (∀ (j : Nat) t xs, ts[j]? = some t → xss[j]? = some xs → B5 P g t xs) ∧ AV.rels W (fun b => b < W.heap.size) ((ts.zip xss).map fun p => PO (Fg P p.1) p.2) vs ∧ (FD B → HK xss ≤ (ds.map B).sum)
 | [], [], [], _, _, _, _, _ => ⟨[], rfl, by simp, trivial, fun _ => by simp [HK]⟩
 | t :: ts, v :: vs, d :: ds, _, hp, ⟨p, q, ⟨fuel, h1⟩, h2, _⟩, hv, hw => by
   simp only [DataW.weightsEach, List.mem_append] at hw
   obtain ⟨xs, r1, r2, r3⟩ := RB B g fuel t v.cells.toList d p h1 (hp t (by simp)) fun x hx => hw x (.inl hx)
   obtain ⟨xss, i1, i2, i3, i4⟩ := PX B (fun t ht => hp t (by simp [ht])) h2 (fun j t v h1 h2 => hv (j + 1) t v (by simpa using h1) (by simpa using h2)) fun x hx => hw x (.inr hx)
   refine ⟨xs :: xss, by simp [i1], fun j t' xs' h1 h2 => ?_, ⟨cB r2 r1 (hv 0 t v rfl rfl), i3⟩, fun hB => by
    have := r3 hB
    have := i4 hB
    simp only [HK, List.map_cons, List.sum_cons]
    omega⟩
   cases j with
   | zero => simp at h1 h2; subst h1; subst h2; exact r2
   | succ j => exact i2 j t' xs' (by simpa using h1) (by simpa using h2)
theorem dc {f : FuncId} {fn : Func} {s : ChangeSpec} {G : List (Nat × List D)} {g : Nat} {tb : TypeId} {W : World} {base : Nat} {args : Array Value} {ds gs : List (DataW H)} {before : List MemPlace}
 (hl : laidOutB P = true) (hpar : ∀ t ∈ fn.params.toList, Gs P g t = true ∧ P.readableRec t = true ∧ t < P.types.size) (hres : fn.resultTypes = #[tb]) (htb : P.underlying tb = some .bool) (hvars : s.vars = [])
 (hspec : ∀ ds : List (DataW H), ds.length = fn.params.toList.length → (s.fn H (ds ++ [])).results = [.lit (.bool true)] ∧ (s.fn H (ds ++ [])).args = ds ∧ (s.fn H (ds ++ [])).vars = [])
 (B : DataW H → Nat)
 (hac : ∀ xss : List (List D), xss.length = fn.params.toList.length → (∀ (j : Nat) t xs, fn.params.toList[j]? = some t → xss[j]? = some xs → B5 P g t xs) → (FD B → HK xss ≤ (ds.map B).sum) → ACr P G f ((fn.params.toList.zip xss).map fun p => PO (Fg P p.1) p.2) (.bool true))
 (hG : ∀ q ∈ G, PD W (fun b => b < W.heap.size) q.2 ⟨q.1, 0, none⟩)
 (hval : ∀ (j : Nat) t v, fn.params[j]? = some t → args[j]? = some v → Value.okWide P W .any base t v)
 (hW : DataW.Whole enc P fn.params.toList s.vars false W args.toList ds gs before)
 (hsize : (DataW.weightsEach P fn.params.toList ds).all (· ≤ reachBytes) = true) :
 Calls P f args W fun e W' => ∃ v, e = .returned v ∧ s.post enc P fn false true false false W args v W' := by
 have hW' := hW
 obtain ⟨p, q, hA, hV, rfl, hfz, hnd⟩ := hW
 rw [hvars] at hV
 obtain ⟨rfl, rfl⟩ : gs = [] ∧ q = [] := by cases gs <;> simp_all [DataW.TrodVars]
 obtain ⟨xss, x1, x2, x3, x4⟩ := PX B (g := g) (base := base) (fun t ht => (hpar t ht).1) hA (fun j t v h1 h2 => hval j t v (by simpa using h1) (by simpa using h2)) (fun x hx => by simpa using List.all_eq_true.1 hsize x hx)
 have hcall := hac xss x1 x2 x4 (fun b => b < W.heap.size) W args.toList (by simp) (by simp [blks]) (fun b hb => ⟨hb, by simp [blks]⟩) hG x3
 rw [Array.toArray_toList] at hcall
 refine hcall.mono fun e W' hpost => ?_
 obtain ⟨r, h', I', ⟨rfl, rfl⟩, hok, hrel⟩ := hpost
 cases e with
 | panicked ch => exact hrel.elim
 | outgrown => exact hrel.elim
 | returned v =>
   have hv : v = .bool true := hrel
   subst hv
   refine ⟨_, rfl, ?_⟩
   have hb : Below W.heap.size W W' := ⟨hok.os, hok.tape, hok.output, hok.size, fun k hk => hok.keep k hk (by simp [blks])⟩
   have hdl : ds.length = fn.params.toList.length := by
    have : ∀ {ts : List TypeId} {vs : List Value} {ds : List (DataW H)} {ps : List MemPlace}, DataW.TrodAll enc P W 0 (fun _ => true) true ts vs ds ps → ds.length = ts.length := by
     intro ts
     induction ts with
     | nil => intro vs ds ps h; cases vs <;> cases ds <;> simp_all [DataW.TrodAll]
     | cons t ts ih =>
       intro vs ds ps h
       cases vs with
       | nil => cases h
       | cons v vs =>
         cases ds with
         | nil => cases h
         | cons d ds => obtain ⟨_, _, _, h2, _⟩ := h; simp [ih h2]
    exact this hA
   obtain ⟨e1, e2, e3⟩ := hspec ds hdl
   refine OP (pa := p) (pv := []) hW' (fun b sp hd => ?_) (fun sp hsp => ?_) (fun sp _ => ?_) rfl hb ?_
   · rw [e1, hres]
     simp only [Value.resultList, List.size_toArray, List.length_cons, List.length_nil, if_true]
     exact trodAll_mk1 (shut_bool htb true)
   · rw [e2]
     exact Jg hl (fun t ht => (hpar t ht).2) hA (fun x hx => hb.same (hW'.lt x (by simp [hx]))) sp (fun x hx => hsp x (by simp [hx]))
   · rw [hvars, e3]; rfl
   · exact ok_one hres rfl (okWide_bool_mk htb true)
theorem gS {f : FuncId} {fn : Func} {s : ChangeSpec} {G : List (Nat × List D)} {g : Nat} {tb : TypeId} {W : World} {base : Nat} {args : Array Value} {ds gs : List (DataW H)} {before : List MemPlace}
 (hl : laidOutB P = true) (hpar : ∀ t ∈ fn.params.toList, Gs P g t = true ∧ P.readableRec t = true ∧ t < P.types.size) (hres : fn.resultTypes = #[tb]) (htb : P.underlying tb = some .bool) (hvars : s.vars = [])
 (hspec : ∀ ds : List (DataW H), ds.length = fn.params.toList.length → (s.fn H (ds ++ [])).results = [.lit (.bool true)] ∧ (s.fn H (ds ++ [])).args = ds ∧ (s.fn H (ds ++ [])).vars = [])
 (hac : ∀ xss : List (List D), xss.length = fn.params.toList.length → (∀ (j : Nat) t xs, fn.params.toList[j]? = some t → xss[j]? = some xs → B5 P g t xs) → ACr P G f ((fn.params.toList.zip xss).map fun p => PO (Fg P p.1) p.2) (.bool true))
 (hG : ∀ q ∈ G, PD W (fun b => b < W.heap.size) q.2 ⟨q.1, 0, none⟩)
 (hval : ∀ (j : Nat) t v, fn.params[j]? = some t → args[j]? = some v → Value.okWide P W .any base t v)
 (hW : DataW.Whole enc P fn.params.toList s.vars false W args.toList ds gs before)
 (hsize : (DataW.weightsEach P fn.params.toList ds).all (· ≤ reachBytes) = true) :
 Calls P f args W fun e W' => ∃ v, e = .returned v ∧ s.post enc P fn false true false false W args v W' :=
 dc hl hpar hres htb hvars hspec (fun _ => 0) (fun xss h1 h2 _ => hac xss h1 h2) hG hval hW hsize
end
theorem TD {P : Program} {g : Nat} {t : TypeId} {k : IntKind} {xs : List D} (hu : P.underlying t = some (.int k)) (h : B5 P (g + 1) t xs) : ∃ n, xs = [.i k n] ∧ (Lit.int k n).wf = true := by unfold B5 at h; rw [hu] at h; exact h
theorem M9 {P : Program} {g : Nat} {t : TypeId} {xs : List D} (hu : P.underlying t = some .string) (h : B5 P (g + 1) t xs) : ∃ s, xs = [.s s] ∧ s.size ≤ 140737488355328 := by unfold B5 at h; rw [hu] at h; exact h
theorem RS {α : Type} {f : α → List D} : ∀ {rows : List (List D)}, (∀ r ∈ rows, ∃ a, r = f a) → ∃ l : List α, rows = l.map f
 | [], _ => ⟨[], rfl⟩
 | r :: rows, h => by
   obtain ⟨a, rfl⟩ := h r (by simp)
   obtain ⟨l, rfl⟩ := RS (rows := rows) fun r hr => h r (by simp [hr])
   exact ⟨a :: l, rfl⟩
theorem DF {P : Program} {g : Nat} {t e : TypeId} {sz eb : Nat} {xs : List D} {α : Type} {f : α → List D} (hu : P.underlying t = some (.slice e)) (hc : P.cellsOf e = sz) (hb : P.bytesOf e = eb) (hf : ∀ r, B5 P g e r → ∃ a, r = f a) (h : B5 P (g + 1) t xs) : ∃ l : List α, xs = [.l sz eb (l.map f)] ∧ l.length * eb ≤ 140737488351232 := by
 unfold B5 at h
 rw [hu] at h
 obtain ⟨rows, rfl, h1, h2⟩ := h
 obtain ⟨l, rfl⟩ := RS fun r hr => hf r (h1 r hr)
 exact ⟨l, by rw [hc, hb], by rw [← hb]; simpa using h2⟩
theorem DD {P : Program} {g : Nat} {t : TypeId} {f0 f1 : Field} {xs : List D} (hu : P.underlying t = some (.struct #[f0, f1])) (h : B5 P (g + 1) t xs) : ∃ p0 p1, xs = p0 ++ p1 ∧ B5 P g f0.type p0 ∧ B5 P g f1.type p1 := by
 unfold B5 at h
 rw [hu] at h
 obtain ⟨parts, rfl, hl, hp⟩ := h
 match parts, hl with
 | [p0, p1], _ => exact ⟨p0, p1, by simp, hp 0 f0 p0 rfl rfl, hp 1 f1 p1 rfl rfl⟩
theorem L1 {P : Program} {g : Nat} {t : TypeId} {f0 f1 f2 : Field} {xs : List D} (hu : P.underlying t = some (.struct #[f0, f1, f2])) (h : B5 P (g + 1) t xs) : ∃ p0 p1 p2, xs = p0 ++ (p1 ++ p2) ∧ B5 P g f0.type p0 ∧ B5 P g f1.type p1 ∧ B5 P g f2.type p2 := by
 unfold B5 at h
 rw [hu] at h
 obtain ⟨parts, rfl, hl, hp⟩ := h
 match parts, hl with
 | [p0, p1, p2], _ => exact ⟨p0, p1, p2, by simp, hp 0 f0 p0 rfl rfl, hp 1 f1 p1 rfl rfl, hp 2 f2 p2 rfl rfl⟩
theorem L3 {P : Program} {g : Nat} {t : TypeId} {f0 f1 f2 f3 : Field} {xs : List D} (hu : P.underlying t = some (.struct #[f0, f1, f2, f3])) (h : B5 P (g + 1) t xs) : ∃ p0 p1 p2 p3, xs = p0 ++ (p1 ++ (p2 ++ p3)) ∧ B5 P g f0.type p0 ∧ B5 P g f1.type p1 ∧ B5 P g f2.type p2 ∧ B5 P g f3.type p3 := by
 unfold B5 at h
 rw [hu] at h
 obtain ⟨parts, rfl, hl, hp⟩ := h
 match parts, hl with
 | [p0, p1, p2, p3], _ => exact ⟨p0, p1, p2, p3, by simp, hp 0 f0 p0 rfl rfl, hp 1 f1 p1 rfl rfl, hp 2 f2 p2 rfl rfl, hp 3 f3 p3 rfl rfl⟩
end Go.Av
namespace Go.Proofs.YtnlfhnbcdfdhgaaGreatDoor
open Go Go.Av Go.Sp
theorem Ev {g : Nat} {xs : List D} (h : B5 Tryz.prog (g + 1) 3 xs) : ∃ n, xs = [.i .i64 n] := by obtain ⟨n, h, _⟩ := TD Tryz.underlying3 h; exact ⟨n, h⟩
theorem cJ {g : Nat} {xs : List D} (h : B5 Tryz.prog (g + 2) 137 xs) : ∃ o : Fo, xs = o.cells := by
  obtain ⟨p0, p1, rfl, h0, h1⟩ := DD Tryz.underlying137 h
  obtain ⟨a, rfl⟩ := Ev h0
  obtain ⟨b, rfl⟩ := Ev h1
  exact ⟨⟨a, b⟩, rfl⟩
theorem Kt {g : Nat} {xs : List D} (h : B5 Tryz.prog (g + 3) 27 xs) : ∃ l : List Fo, xs = [AO l] ∧ l.length * 16 ≤ 140737488351232 := DF Tryz.underlying27 (by kernel_rfl) (by kernel_rfl) (fun _ h => cJ h) h
theorem US {g : Nat} {xs : List D} (h : B5 Tryz.prog (g + 4) 26 xs) : ∃ l : List (List Fo), xs = [Ar l] ∧ l.length * 24 ≤ 140737488351232 := DF Tryz.underlying26 (by kernel_rfl) (by kernel_rfl) (fun _ h => by obtain ⟨l, h, _⟩ := Kt h; exact ⟨l, h⟩) h
theorem XP {g : Nat} {xs : List D} (h : B5 Tryz.prog (g + 2) 59 xs) : ∃ o : Fo, xs = o.cells := by
  obtain ⟨p0, p1, rfl, h0, h1⟩ := DD Tryz.underlying59 h
  obtain ⟨a, rfl⟩ := Ev h0
  obtain ⟨b, rfl⟩ := Ev h1
  exact ⟨⟨a, b⟩, rfl⟩
theorem UD {g : Nat} {xs : List D} (h : B5 Tryz.prog (g + 3) 30 xs) : ∃ l : List Fo, xs = [AO l] ∧ l.length * 16 ≤ 140737488351232 := DF Tryz.underlying30 (by kernel_rfl) (by kernel_rfl) (fun _ h => XP h) h
end Go.Proofs.YtnlfhnbcdfdhgaaGreatDoor
