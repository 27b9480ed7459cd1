/- Own texts. -/
import Derived.Test.YtnlfhnbcdfdhgaaGreatDoorA23
set_option linter.unusedVariables false
set_option linter.unusedSimpArgs false
set_option maxRecDepth 100000
set_option maxHeartbeats 4000000
namespace Go.Av
open Go Go.Instr
structure Qu where
 g : Nat
 off : Nat
 c : Nat
 pre : List AV
 post : List AV
abbrev Qu.v (q : Qu) (n : Nat) : Value := .slice (some ⟨q.g, q.off, none⟩) n q.c
section
variable {k : Kx} {Q : Exit → Env → H → Prop} {ρ : Env} {h h' : H} {ops : Array Oper} {l : List Oper} {d : Nat} {ty : TypeId} {pos : String} {after : Array Edge}
theorem cy {T E : TypeId} {x : Operand} {a : Int} {z : Value} {eb : Nat} (h0 : evO ρ x = some (.int a)) (hT : k.P.underlying T = some (.slice E)) (he : El k.P E z 1 eb)
 (hd : Nat.blt d k.n = true) (hj : All fun q : Sl => JL k ops l Q ((d, .val q.v) :: ρ) (AL q.v E 1 Sp.AS [a] :: h)) : JL k ops (⟨some d, .buildSlice T 1 #[(0, x)], ty, pos, after, none⟩ :: l) Q ρ h := by
 refine SI (f := Sp.AS) (ys := [a]) (xs := [x]) hT he (by decide) (by simp) rfl ?_ ?_ (fun _ => rfl) (by simp) hd ⟨fun v => MX (h1 := []) rfl fun q e => by subst e; exact hj.get q⟩
 · simp only [List.map_cons, List.map_nil, AD h0]; rfl
 · intro x hx
   simp only [List.mem_cons, List.not_mem_nil, or_false] at hx
   rw [hx, AD h0]; rfl
end
end Go.Av
namespace Go.Proofs.YtnlfhnbcdfdhgaaGreatDoor
open Go Go.Av Go.Sp
theorem UB : Cal Tryz.prog 179 := Cal.of Tryz.func179 (by kernel_rfl) (by kernel_rfl)
theorem Oy : Cal Tryz.prog 177 := Cal.of Tryz.func177 (by kernel_rfl) (by kernel_rfl)
theorem Jd : Cal Tryz.prog 159 := Cal.of Tryz.func159 (by kernel_rfl) (by kernel_rfl)
theorem eZ (G : List (Nat × List D)) (xs : List Int) : AC Tryz.prog G 179 [.d (AJ xs)] [] fun r h => ∃ q : Sl, r = .ret (.val q.v) ∧ h = [AL q.v 3 1 AS xs] := by
 refine AK (ts := [2]) Tryz.f179.ntmps Tryz.func179 rfl rfl rfl (by simp [Tryz.ntmps179]) fun W I => ?_
 refine Bn (t := 0) rfl fun hl => ?_
 repeat' (first | ((with_reducible apply WA); (iterate 3 rfl); rfl) | ((with_reducible apply (MY AS)); rfl; (with_reducible exact ElC.h); rfl) | exact jA | refine AP ?_ | refine two ?_ ?_ | refine imp fun hc => ?_; try exact cx hc | refine all fun v_ => ?_)
 · subst hc
   refine AI (VS.nilrow 3 1) ?_
   ((with_reducible apply rq1); rfl; rfl)
   exact ⟨Sl.nil, rfl, rfl⟩
 · refine A0 ?_
   ((with_reducible apply rq1); rfl; rfl)
   exact ⟨v_, rfl, rfl⟩
theorem after (m : Md) (hm : AT m = 0) (r : Ru) (hr : r ∈ m.rules) (vs : List Int) (g : InV m vs) : ACr Tryz.prog GP 177 [mdA m, ruA r, .d (AJ vs)] (.tup [.d (AJ ((CA m r vs).getD [])), .bool (CA m r vs).isSome]) := by
 have gr := Ym hm hr
 have hl6 := DZ (BM hm)
 have hln := g.len
 have hfew := gr.few
 have hG := Eval r.guard vs
 refine AK (ts := [6, 7]) Tryz.f177.ntmps Tryz.func177 rfl rfl rfl (by simp [Tryz.ntmps177]) fun W I => ?_
 have hb := Wx (l := r.guard) (vs := vs) (by rw [hln]; exact gr.guard) (g.lim hm)
 by_cases h0 : BS r.guard vs ≠ (1, 0)
 · rw [Kk h0]
   rcases hb with hb | hb | hb
   · rw [hb] at hG
     dsimp only at hG
     repeat' (first | refine ca FA (hG) ?_ | exact jA | refine AF ?_ | refine two ?_ ?_ | refine AB fun c_ => ?_ | refine imp fun hc => ?_; try exact cx1 hc | refine all fun v_ => ?_)
     refine AI (VS.trans jE (Cj (t := 6) 1 8 rfl)) ?_
     ((with_reducible apply rq2); rfl; rfl; rfl)
     exact AA rfl
   · rw [hb] at hG
     dsimp only at hG
     repeat' (first | refine ca FA (hG) ?_ | exact jA | refine AF ?_ | refine two ?_ ?_ | refine AB fun c_ => ?_ | refine imp fun hc => ?_; try exact cx1 hc | refine all fun v_ => ?_)
     refine AI (VS.trans jE (Cj (t := 6) 1 8 rfl)) ?_
     ((with_reducible apply rq2); rfl; rfl; rfl)
     exact AA rfl
   · exact absurd hb h0
 replace h0 := jY h0
 rw [h0] at hG
 dsimp only at hG
 repeat' (first | refine ca FA (hG) ?_ | refine cae UB (eZ _ _) ?_ | exact jA | refine AF ?_ | refine two ?_ ?_ | refine AB fun c_ => ?_ | refine imp fun hc => ?_; try exact cx1 hc | refine all fun v_ => ?_)
 rename_i bm br _
 refine AG (X := Nat) (fun i => [(2, .d (AJ vs)), (3, .val (.pointer (some ⟨bm, 0, none⟩))), (10, .val v_.v), (32, .d (GU r.sets)), (33, .int r.sets.length), (34, .int i)]) (fun i => [AL v_.v 3 1 AS (CG vs (r.sets.take i) vs), .cells bm 25 [.d (Au m.vars), .d (Ae m.rules)]]) (fun i => i ≤ r.sets.length ∧ ∀ s ∈ r.sets.take i, IC m vs s) (fun i => r.sets.length - i) 0 ⟨Nat.zero_le _, fun s hs => (by cases hs)⟩ (VS.take AH ?_) ?_
 · exact leD
 rintro i ⟨hi, hok⟩
 have hsl := DJ vs (r.sets.take i) vs
 by_cases hil : i < r.sets.length
 · have hs := jb hil
   obtain ⟨a1, a2, a3⟩ := gr.sets _ hs
   have a4 : r.sets[i].var.toNat < m.vars.length := by omega
   have hE := Eval r.sets[i].val vs
   have hx := fun n e (he : BS r.sets[i].val vs = (n, e)) => Xl (m := m) (vs := vs) (s := r.sets[i]) (n := n) (e := e) he jB
   have hn := Sn vs r.sets i hil
   generalize BS r.sets[i].val vs = p at hE hx hn
   obtain ⟨n, e⟩ := p
   have hx := hx n e rfl
   dsimp only at hE hn
   by_cases hgood : IC m vs r.sets[i]
   · have hx := hx.1 hgood
     obtain ⟨rfl, x1, x2⟩ := hx
     repeat' (first | refine ca FA (hE) ?_ | exact jA | refine AF ?_ | refine two ?_ ?_ | refine AB fun c_ => ?_ | refine imp fun hc => ?_; try exact cx1 hc | refine all fun v_ => ?_)
     refine ⟨i + 1, ⟨by omega, fun s h => ?_⟩, by omega, ?_⟩
     · rw [jZ hil] at h
       rcases List.mem_append.1 h with h | h
       · exact hok s h
       · rw [List.mem_singleton.1 h]; exact hgood
     · rw [hn]
       refine VS.take AH ?_
       exact leD
   · rw [KG hs hgood]
     by_cases x0 : e ≠ 0
     · repeat' (first | refine ca FA (hE) ?_ | exact jA | refine AF ?_ | refine two ?_ ?_ | refine AB fun c_ => ?_ | refine imp fun hc => ?_; try exact cx1 hc | refine all fun v_ => ?_)
       refine AI (VS.trans jE (Cj (t := 6) 1 8 rfl)) ?_
       ((with_reducible apply rq2); rfl; rfl; rfl)
       exact AA rfl
     replace x0 := jY x0
     subst x0
     by_cases x1 : n < m.vars[r.sets[i].var.toNat].low
     · repeat' (first | refine ca FA (hE) ?_ | exact jA | refine AF ?_ | refine two ?_ ?_ | refine AB fun c_ => ?_ | refine imp fun hc => ?_; try exact cx1 hc | refine all fun v_ => ?_)
       refine AI (VS.trans jE (Cj (t := 6) 1 8 rfl)) ?_
       ((with_reducible apply rq2); rfl; rfl; rfl)
       exact AA rfl
     by_cases x2 : m.vars[r.sets[i].var.toNat].high < n
     · repeat' (first | refine ca FA (hE) ?_ | exact jA | refine AF ?_ | refine two ?_ ?_ | refine AB fun c_ => ?_ | refine imp fun hc => ?_; try exact cx1 hc | refine all fun v_ => ?_)
       refine AI (VS.trans jE (Cj (t := 6) 1 8 rfl)) ?_
       ((with_reducible apply rq2); rfl; rfl; rfl)
       exact AA rfl
     exact absurd (hx.2 ⟨rfl, by omega, by omega⟩) hgood
 obtain rfl : i = r.sets.length := by omega
 rw [List.take_length] at hok hsl ⊢
 rw [Ls h0 hok]
 repeat' (first | exact jA | refine AF ?_ | refine two ?_ ?_ | refine AB fun c_ => ?_ | refine imp fun hc => ?_; try exact cx1 hc | refine all fun v_ => ?_)
 refine AI (VS.trans (Bq (t := 6) (eb := 8) rfl rfl (fun x => rfl) jB) jE) ?_
 ((with_reducible apply rq2); rfl; rfl; rfl)
 exact AA rfl
theorem SS : Cal Tryz.prog 139 := Cal.of Tryz.func139 (by kernel_rfl) (by kernel_rfl)
theorem ZO : Cal Tryz.prog 86 := Cal.of Tryz.func86 (by kernel_rfl) (by kernel_rfl)
theorem iO (G : List (Nat × List D)) (q : Sl) (xs : List Int) (hb : xs.length < 4611686018427387904) : AC Tryz.prog G 143 [.val q.v] [AL q.v 3 1 AS xs] fun e h => ∃ _ : Unit, e = .ret (.tup []) ∧ h = [AL q.v 3 1 AS (Ba xs)] :=
 (dv G q xs hb).mono fun _ _ h => ⟨(), h.1, h.2⟩
theorem bN (G : List (Nat × List D)) (q : Sl) (xs : List Int) (hb : xs.length ≤ 1000000) : AC Tryz.prog G 178 [.val q.v] [AL q.v 3 1 AS xs] fun e h => ∃ q' : Sl, e = .ret (.val q'.v) ∧ h = [AL q'.v 3 1 AS (Lib.compact xs)] :=
 CompactI G q xs jB (To xs _ (Nat.le_refl _))
theorem next (m : Md) (hm : AT m = 0) (vs : List Int) (g : InV m vs) : AC Tryz.prog GP 139 [mdA m, .d (AJ vs)] [] fun e h => ∃ q : Sl, e = .ret (.val q.v) ∧ h = [AL q.v 3 1 AS (Lib.compact (Ba (B6 m vs m.rules)))] := by
 have h12 := J5 hm
 refine AK (ts := [4]) Tryz.f139.ntmps Tryz.func139 rfl rfl rfl (by simp [Tryz.ntmps139]) fun W I => ?_
 repeat' (first | exact jA | refine AF ?_ | refine two ?_ ?_ | refine AB fun c_ => ?_ | refine imp fun hc => ?_; try exact cx1 hc | refine all fun v_ => ?_)
 obtain ⟨bm, rfl⟩ : ∃ x, x = v_ := ⟨v_, rfl⟩
 refine Db (E := 3) (sz := 1) AS ?_
 refine AG (X := Nat × Sl) (fun y => [(1, .d (AJ vs)), (2, .val (.pointer (some ⟨bm, 0, none⟩))), (5, .val y.2.v), (13, .d (Ae m.rules)), (14, .int m.rules.length), (15, .int y.1)]) (fun y => [AL y.2.v 3 1 AS (B6 m vs (m.rules.take y.1)), .cells bm 25 [.d (Au m.vars), .d (Ae m.rules)]]) (fun y => y.1 ≤ m.rules.length) (fun y => m.rules.length - y.1) (0, Sl.nil) (Nat.zero_le _) (VS.take AH ?_) ?_
 · exact leD
 rintro ⟨i, q⟩ hi
 dsimp only at hi ⊢
 have hln := J9 m vs (m.rules.take i)
 rw [List.length_take] at hln
 by_cases hil : i < m.rules.length
 · have hr := jb hil
   have hA := after m hm _ hr vs g
   cases ho : CA m m.rules[i] vs with
   | none =>
     have hs := Le hil ho
     rw [ho] at hA
     simp only [Option.getD_none, Option.isSome_none] at hA
     repeat' (first | refine ca Oy (hA) ?_ | exact jA | refine AF ?_ | refine two ?_ ?_ | refine AB fun c_ => ?_ | refine imp fun hc => ?_; try exact cx1 hc | refine all fun v_ => ?_)
     refine ⟨(i + 1, q), jC, jC, VS.take (by dsimp only; rw [hs]; exact AH) ?_⟩
     exact leD
   | some out =>
     have hs := Lg hil ho
     rw [ho] at hA
     simp only [Option.getD_some, Option.isSome_some] at hA
     repeat' (first | refine ca Oy (hA) ?_ | refine ca Rk (Code _ _) ?_ | exact jA | refine AF ?_ | refine two ?_ ?_ | refine AB fun c_ => ?_ | refine imp fun hc => ?_; try exact cx1 hc | refine all fun v_ => ?_)
     refine ⟨(i + 1, v_), jC, jC, VS.take (by dsimp only; rw [hs]; exact AH) ?_⟩
     exact leD
 obtain rfl : i = m.rules.length := by omega
 rw [List.take_length] at hln ⊢
 generalize B6 m vs m.rules = cs at hln ⊢
 have hsl := RJ cs
 repeat' (first | ((with_reducible apply D8); rfl; exact D7; (focus exact iO GP q cs jB); exact BF; rfl; exact EI) | ((with_reducible apply D8); rfl; exact RE; (focus exact bN GP q (Ba cs) jB); exact BF; rfl; exact EI) | exact jA | refine AF ?_ | refine two ?_ ?_ | refine AB fun c_ => ?_ | refine imp fun hc => ?_; try exact cx1 hc | refine all fun v_ => ?_)
 refine AI (VS.drop (h' := [AL v_.v 3 1 AS (Lib.compact (Ba cs))]) IE) ?_
 ((with_reducible apply rq1); rfl; rfl)
 exact ⟨v_, rfl, rfl⟩
theorem Next (m : Md) (code : Int) : ACr Tryz.prog GP 86 [mdA m, .int code] (.tup [.d (AJ (D3 m code).1), .int (D3 m code).2]) := by
 have hV := aD m code
 refine AK (ts := [4, 5]) Tryz.f86.ntmps Tryz.func86 rfl rfl rfl (by simp [Tryz.ntmps86]) fun W I => ?_
 by_cases h1 : (BK m code).2 ≠ 0
 · rw [HD h1]
   repeat' (first | refine ca Eh (hV) ?_ | exact jA | refine AF ?_ | refine two ?_ ?_ | refine AB fun c_ => ?_ | refine imp fun hc => ?_; try exact cx1 hc | refine all fun v_ => ?_)
   refine AI (VS.trans jE (Cj (t := 4) 1 8 rfl)) ?_
   ((with_reducible apply rq2); rfl; rfl; rfl)
   exact AA rfl
 rw [Ky (jY h1)]
 obtain ⟨hm, c0, c1, hF⟩ := Kh (jY h1)
 have g := InV.vals hm c0 c1
 rw [hF] at hV
 dsimp only at hV
 clear h1
 have hN := next m hm _ g
 have hr := Kb hm g
 obtain ⟨n, hn, n1, n2⟩ := Du hm
 rw [hn] at hr ⊢
 rw [Qk n _ hr] at hN
 generalize B6 m (B2 m.vars code) m.rules = cs at hN hr ⊢
 have hul := Np n cs
 rw [Int.toNat_natCast]
 by_cases hcs : cs = []
 · subst hcs
   rw [aK] at hN hul
   rw [if_pos rfl]
   repeat' (first | refine ca Eh (hV) ?_ | refine cae SS (hN) ?_ | exact jA | refine AF ?_ | refine two ?_ ?_ | refine AB fun c_ => ?_ | refine imp fun hc => ?_; try exact cx1 hc | refine all fun v_ => ?_)
   refine AI (VS.trans (Bq (t := 4) (eb := 8) rfl rfl (fun x => rfl) (by simp)) jE) ?_
   ((with_reducible apply rq2); rfl; rfl; rfl)
   exact AA rfl
 · rw [if_neg hcs]
   have hu0 : 0 < (HJ n cs).length := by
    obtain ⟨x, hx⟩ := List.exists_mem_of_ne_nil _ hcs
    exact List.length_pos_of_mem ((R8 hr x).2 hx)
   repeat' (first | refine ca Eh (hV) ?_ | refine cae SS (hN) ?_ | exact jA | refine AF ?_ | refine two ?_ ?_ | refine AB fun c_ => ?_ | refine imp fun hc => ?_; try exact cx1 hc | refine all fun v_ => ?_)
   refine AI (VS.trans (Bq (t := 4) (eb := 8) rfl rfl (fun x => rfl) jB) jE) ?_
   ((with_reducible apply rq2); rfl; rfl; rfl)
   exact AA rfl
end Go.Proofs.YtnlfhnbcdfdhgaaGreatDoor
