/- A bundle of this claim's own texts: H5 K12. -/
import Derived.Test.YtniklgkoiaeipaaGreatDoorD2
import Derived.Test.YtniklgkoiaeipaaGreatDoorD21
import Derived.Test.YtniklgkoiaeipaaGreatDoorD42
import Derived.Test.YtniklgkoiaeipaaGreatDoorF1
set_option linter.unusedVariables false
set_option linter.unusedSimpArgs false
set_option maxRecDepth 100000
set_option maxHeartbeats 4000000
namespace Go.Proofs.YtniklgkoiaeipaaGreatDoor
open Go Go.Av Go.Sp
structure PathG (d : De) (p : List Int) : Prop where
 head : p[0]? = some (firstF (modG d))
 step : ∀ (i : Nat) (h : i + 1 < p.length), p[i + 1] ∈ (nextF (modG d) p[i]).1
section
variable {d : De} {p : List Int}
theorem PathG.pos (w : PathG d p) : 0 < p.length := by
 have := (List.getElem?_eq_some_iff.1 w.head).1
 exact this
theorem PathG.get0 (w : PathG d p) : p[0]'w.pos = firstF (modG d) := (List.getElem?_eq_some_iff.1 w.head).2
theorem PathG.range_at (w : PathG d p) : ∀ (i : Nat) (h : i < p.length), 0 ≤ p[i] ∧ p[i] < prodV (modG d).vars
 | 0, h => by rw [w.get0]; exact (first_ok (modelF_G d)).2
 | i + 1, h => nextF_range (modelF_G d) _ _ (w.step i h)
theorem PathG.range (w : PathG d p) : ∀ x ∈ p, 0 ≤ x ∧ x < prodV (modG d).vars := fun x hx => by
 obtain ⟨i, hi, rfl⟩ := List.getElem_of_mem hx
 exact w.range_at i hi
theorem PathG.first (d : De) : PathG d [firstF (modG d)] := ⟨rfl, fun i h => absurd h (by simp)⟩
theorem PathG.more (w : PathG d p) {c : Int} (hc : c ∈ (nextF (modG d) (p[p.length - 1]'(by have := w.pos; omega))).1) : PathG d (p ++ [c]) := by
 have hp := w.pos
 refine ⟨by rw [List.getElem?_append_left hp]; exact w.head, fun i h => ?_⟩
 rw [List.length_append, List.length_singleton] at h
 by_cases hi : i + 1 < p.length
 · rw [List.getElem_append_left hi, List.getElem_append_left (by omega)]
   exact w.step i hi
 · obtain rfl : i = p.length - 1 := by omega
   have h1 : p.length ≤ p.length - 1 + 1 := by omega
   have h2 : p.length - 1 < p.length := by omega
   rw [List.getElem_append_right h1, List.getElem_append_left h2]
   simpa using hc
theorem PathG.round (w : PathG d p) {k : Nat} (hk : k < p.length) (hc : p[k] ∈ (nextF (modG d) (p[p.length - 1]'(by omega))).1) : runF (modG d) (p.take k) (p.drop k) = (true, 0) := by
 have hp := w.pos
 have hd : (p.drop k).take 1 = [p[k]] := by rw [List.drop_eq_getElem_cons hk]; rfl
 have hR : roundL (p.take k) (p.drop k) = p ++ [p[k]] := by unfold roundL; rw [List.take_append_drop, hd]
 refine runF_at (modelF_G d) (manyG_eq d).1 ?_ ?_ ⟨fun _ => ?_, fun _ => rfl⟩
 · intro e
   have := congrArg List.length e
   rw [List.length_drop, List.length_nil] at this
   omega
 · rw [List.take_append_drop, List.head?_eq_getElem?]; exact w.head
 · rw [hR]
   intro i hi
   rw [List.length_append, List.length_singleton] at hi
   have e1 : at0 (p ++ [p[k]]) i = p[i]'(by omega) := by
    unfold at0; rw [List.getElem?_append_left (by omega), List.getElem?_eq_getElem (by omega)]; rfl
   have hr := w.range_at i (by omega)
   rw [(manyG_eq d).1] at hr
   refine ⟨by rw [e1]; exact hr, ?_⟩
   rw [e1]
   by_cases h2 : i + 1 < p.length
   · have e2 : at0 (p ++ [p[k]]) (i + 1) = p[i + 1] := by
      unfold at0; rw [List.getElem?_append_left h2, List.getElem?_eq_getElem h2]; rfl
     rw [e2]; exact w.step i h2
   · obtain rfl : i = p.length - 1 := by omega
     have e2 : at0 (p ++ [p[k]]) (p.length - 1 + 1) = p[k] := by
      unfold at0
      rw [show p.length - 1 + 1 = p.length by omega, List.getElem?_append_right (Nat.le_refl _), Nat.sub_self]; rfl
     rw [e2]; exact hc
def rndG (p : List Int) (k i : Nat) : Int := (p[momI k p.length i]?).getD 0
theorem PathG.run (w : PathG d p) {k : Nat} (hk : k < p.length) (hc : p[k] ∈ (nextF (modG d) (p[p.length - 1]'(by omega))).1) : runP (modG d) (rndG p k) := by
 have hp := w.pos
 refine ⟨?_, fun i => ?_⟩
 · show (p[0]?).getD 0 = _
   rw [w.head]; rfl
 · have hm := momI_lt (s := k) (N := p.length) hk i
   unfold rndG
   rw [momI, wnx, List.getElem?_eq_getElem hm]
   by_cases h2 : momI k p.length i + 1 < p.length
   · rw [if_pos h2, List.getElem?_eq_getElem h2]
     exact w.step _ h2
   · rw [if_neg h2, List.getElem?_eq_getElem hk]
     have e : momI k p.length i = p.length - 1 := by omega
     simp only [Option.getD_some, e]
     exact hc
theorem PathG.keeps (w : PathG d p) {f : List Fo} (hf : FoG f) {k : Nat} (hk : k < p.length) (hc : p[k] ∈ (nextF (modG d) (p[p.length - 1]'(by omega))).1) (h1 : k ≤ 12) (h2 : p.length - k ≤ 12) :
 keepsF (tskG d f) (p.take k) (p.drop k) = (iAt f (sgG d (rndG p k)) 0 0, 0) := by
 have hne : p.drop k ≠ [] := by
  intro e
  have := congrArg List.length e
  rw [List.length_drop, List.length_nil] at this
  omega
 have hl : (p.take k).length = k := by rw [List.length_take]; omega
 have hv : ∀ c ∈ p.take k ++ p.drop k, 0 ≤ c ∧ c < prodV (tskG d f).model.vars := by
  rw [List.take_append_drop]; exact w.range
 have hrun := w.round hk hc
 rw [keepsF_word (taskF_G d hf) _ _ hne hv (by show (runF (modG d) _ _).1 = true; rw [hrun]) (by omega) (by rw [List.length_drop]; exact h2), word_run (taskF_G d hf) _ _ hne hv]
 rw [List.take_append_drop, hl]
 rfl
theorem one_next (h : d.rules.length ≤ 1) {c : Int} (h0 : 0 ≤ c) (h1 : c < manyG d) : ∃ x, (nextF (modG d) c).1 = [x] := by
 have hm := modelF_G d
 have hc := codesL_range hm (InV.vals hm h0 (by rw [(manyG_eq d).1]; exact h1))
 have hl := codesL_len (modG d) (valsT (modG d).vars c) (modG d).rules
 have hr : (modG d).rules.length ≤ 1 := by
  unfold modG
  rw [List.length_map, List.length_take]; omega
 rw [nextF_ok (valsF_G d h0 h1)]
 dsimp only
 match hx : codesL (modG d) (valsT (modG d).vars c) (modG d).rules, hl with
 | [], _ => exact ⟨c, if_pos rfl⟩
 | [x], _ =>
   rw [hx] at hc
   rw [if_neg (by simp)]
   have hlt : ∀ y ∈ [x], 0 ≤ y ∧ y < (((prodV (modG d).vars).toNat : Nat) : Int) := fun y hy => by have := hc y hy; omega
   exact ⟨x, up_eq (upTo_up _ _) (List.pairwise_singleton _ _) fun y => mem_upTo hlt y⟩
 | _ :: _ :: _, hl => exact absurd hl (by simp; omega)
theorem one_run (h : d.rules.length ≤ 1) {π ρ : Nat → Int} (hp : runP (modG d) π) (hr : runP (modG d) ρ) : ∀ i, π i = ρ i
 | 0 => by rw [hp.1, hr.1]
 | i + 1 => by
   have e := one_run h hp hr i
   have hg := runP.range (t := tskG d [⟨11, 0⟩]) (taskF_G d FoG.yes) hp i
   have hg2 : π i < prodV (modG d).vars := hg.2
   rw [(manyG_eq d).1] at hg2
   obtain ⟨x, hx⟩ := one_next h hg.1 hg2
   have h1 := hp.2 i
   have h2 := hr.2 i
   rw [← e] at h2
   rw [hx] at h1 h2
   rw [List.mem_singleton.1 h1, List.mem_singleton.1 h2]
theorem one_holds (h : d.rules.length ≤ 1) {f : List Fo} {π : Nat → Int} (hp : runP (modG d) π) : hldF (tskG d f) = iAt f (sgG d π) 0 0 := by
 refine Bool.eq_iff_iff.2 ?_
 rw [hldF_iff, holds_G]
 constructor
 · intro k; exact k π hp
 · intro k ρ hr
   have : ρ = π := funext fun i => (one_run h hp hr i).symm
   rw [this]; exact k
theorem one_not (h : d.rules.length ≤ 1) {f : List Fo} (w : Wf (FoK 3) f) : hldF (tskG d (⟨10, 0⟩ :: f)) = !hldF (tskG d f) := by
 obtain ⟨π, hp⟩ := run_some (modelF_G d)
 rw [one_holds h hp, one_holds h hp, w.sem_not ge8]
theorem PathG.few (w : PathG d p) (hn : p.Nodup) : p.length ≤ 16 := by
 have h := nodup_len (manyG d) p hn fun x hx => by
  have := w.range x hx
  rwa [(manyG_eq d).1] at this
 have := manyG_eq d
 omega
end
theorem PathG.pre {d : De} {p : List Int} {c : Int} (w : PathG d (p ++ [c])) (hp : 0 < p.length) : PathG d p ∧ c ∈ (nextF (modG d) (p[p.length - 1]'(by omega))).1 := by
 refine ⟨⟨by rw [← List.getElem?_append_left (l₂ := [c]) hp]; exact w.head, fun i h => ?_⟩, ?_⟩
 · have hl : i + 1 < (p ++ [c]).length := by rw [List.length_append]; omega
   have := w.step i hl
   have h1 : i < p.length := by omega
   rwa [List.getElem_append_left h, List.getElem_append_left h1] at this
 · have hl : p.length - 1 + 1 < (p ++ [c]).length := by rw [List.length_append, List.length_singleton]; omega
   have := w.step (p.length - 1) hl
   have h1 : p.length ≤ p.length - 1 + 1 := by omega
   have h2 : p.length - 1 < p.length := by omega
   rw [List.getElem_append_right h1, List.getElem_append_left h2] at this
   simpa using this
theorem PathG.last_lt {d : De} {p : List Int} {c : Int} (w : PathG d (p ++ [c])) : 0 ≤ c ∧ c < manyG d := by
 have := w.range c (by simp)
 rwa [(manyG_eq d).1] at this
theorem armXK12_1 {p q : Prop} (hp : p) (h : p → q := by
 apply cmp; (focus (first
  | ((with_reducible apply call0); (focus rfl); (focus exact cal_KFormula); (focus exact hF); (focus rfl))
  | ((with_reducible apply je_call0); (focus rfl); (focus (decide +kernel)); (focus rfl); (focus exact cal_KFormula); (focus exact hF); (focus rfl))
  | ((with_reducible apply call0); (focus rfl); (focus exact cal_KModel); (focus exact hM); (focus rfl))
  | ((with_reducible apply je_call0); (focus rfl); (focus (decide +kernel)); (focus rfl); (focus exact cal_KModel); (focus exact hM); (focus rfl))
  | ((with_reducible apply call0); (focus rfl); (focus exact cal_First); (focus exact hFi); (focus rfl))
  | ((with_reducible apply je_call0); (focus rfl); (focus (decide +kernel)); (focus rfl); (focus exact cal_First); (focus exact hFi); (focus rfl))
  ))
 exact fun h => h) : q := h hp
theorem armXK12_2 {p q : Prop} (hp : p) (h : p → q := by
 apply cmp; (focus (first
  | ((with_reducible apply call0); (focus rfl); (focus exact cal_kholds); (focus exact hA); (focus rfl))
  | ((with_reducible apply je_call0); (focus rfl); (focus (decide +kernel)); (focus rfl); (focus exact cal_kholds); (focus exact hA); (focus rfl))
  | ((with_reducible apply call0); (focus rfl); (focus exact cal_kholds); (focus exact hB); (focus rfl))
  | ((with_reducible apply je_call0); (focus rfl); (focus (decide +kernel)); (focus rfl); (focus exact cal_kholds); (focus exact hB); (focus rfl))
  | ((with_reducible apply call0); (focus rfl); (focus exact cal_KJoined); (focus exact hJ); (focus rfl))
  | ((with_reducible apply je_call0); (focus rfl); (focus (decide +kernel)); (focus rfl); (focus exact cal_KJoined); (focus exact hJ); (focus rfl))
  | ((with_reducible apply qcall); (focus rfl); (focus exact cal_KJoined); (focus exact hJ); (focus rfl))
  | ((with_reducible apply call0); (focus rfl); (focus exact cal_ktask); (focus exact hT); (focus rfl))
  | ((with_reducible apply je_call0); (focus rfl); (focus (decide +kernel)); (focus rfl); (focus exact cal_ktask); (focus exact hT); (focus rfl))
  | ((with_reducible apply call0); (focus rfl); (focus exact cal_Keeps); (focus exact hK); (focus rfl))
  | ((with_reducible apply je_call0); (focus rfl); (focus (decide +kernel)); (focus rfl); (focus exact cal_Keeps); (focus exact hK); (focus rfl))
  ))
 exact fun h => h) : q := h hp
theorem armXK12_3 {p q : Prop} (hp : p) (h : p → q := by
 apply cmp; (focus (first
  | ((with_reducible apply call0); (focus rfl); (focus exact cal_kholds); (focus exact hA); (focus rfl))
  | ((with_reducible apply je_call0); (focus rfl); (focus (decide +kernel)); (focus rfl); (focus exact cal_kholds); (focus exact hA); (focus rfl))
  | ((with_reducible apply call0); (focus rfl); (focus exact cal_kholds); (focus exact hB); (focus rfl))
  | ((with_reducible apply je_call0); (focus rfl); (focus (decide +kernel)); (focus rfl); (focus exact cal_kholds); (focus exact hB); (focus rfl))
  | ((with_reducible apply call0); (focus rfl); (focus exact cal_KJoined); (focus exact hJ); (focus rfl))
  | ((with_reducible apply je_call0); (focus rfl); (focus (decide +kernel)); (focus rfl); (focus exact cal_KJoined); (focus exact hJ); (focus rfl))
  | ((with_reducible apply qcall); (focus rfl); (focus exact cal_KJoined); (focus exact hJ); (focus rfl))
  ))
 exact fun h => h) : q := h hp
theorem armXK12_4 {p q : Prop} (hp : p) (h : p → q := by
 apply cmp; (focus (first
  | ((with_reducible apply call0); (focus rfl); (focus exact cal_Next); (focus exact hL); (focus rfl))
  | ((with_reducible apply je_call0); (focus rfl); (focus (decide +kernel)); (focus rfl); (focus exact cal_Next); (focus exact hL); (focus rfl))
  ))
 exact fun h => h) : q := h hp
theorem law_TopOneRun (d : De) (hd : DeOk d) (raw : List Fo) (hr : rawOk raw) : ACr Tryz.prog GP 13 [deA d, .d (opsD raw)] (.bool true) := by
 have hF := KFormula GP raw hr 3 (by decide)
 obtain ⟨hw, ha, hl⟩ := formG_wf raw 3
 generalize formG raw 3 = f at hF hw ha hl
 have hf : FoG f := ⟨hw, by omega, by omega⟩
 obtain ⟨d1, hd1⟩ : ∃ d1 : De, d1 = { d with rules := d.rules.take (min (d.rules.length : Int) 1).toNat } := ⟨_, rfl⟩
 have hone : d1.rules.length ≤ 1 := by subst hd1; dsimp only; rw [List.length_take]; omega
 have hdk : DeOk d1 := by subst hd1; exact ⟨hd.s0, hd.s1, hd.l0, hd.l1, hd.i0, hd.i1, fun p hp => hd.rules p (List.mem_of_mem_take hp)⟩
 have e0 : deA d1 = .agg [.int d.s0, .int d.s1, .int d.l0, .int d.l1, .int d.i0, .int d.i1, .d (plansD (d.rules.take (min (d.rules.length : Int) 1).toNat))] := by subst hd1; rfl
 have hM := KModel GP d1 hdk
 have hA := kholds d1 hdk hf
 have hB := kholds d1 hdk (FoG.not hw (by omega) (by omega))
 have hT := ktask GP d1 hdk f
 have hJ := Join1 GP 10 f (by omega)
 rw [one_not hone hw] at hB
 have hKK := fun (π : Nat → Int) (hp : runP (modG d1) π) => one_holds hone (f := f) hp
 rw [e0] at hM hA hB hT
 generalize hldF (tskG d1 f) = a at hA hB hKK
 have hFi : ACr Tryz.prog GP 36 [mdA (modG d1)] (.tup [.int (firstF (modG d1)), .int (codeF (modG d1) (inits (modG d1))).2]) := First (modG d1)
 rw [(first_ok (modelF_G d1)).1] at hFi
 clear hd1 e0
 refine AC.factI (f := Pl.cells) (xs := d.rules) (.agg (.there (.there (.there (.there (.there (.there .here))))))) fun hlr => ?_
 refine AC_ofV (ts := [4]) Tryz.f13.ntmps Tryz.func13 rfl rfl rfl (by simp [Tryz.ntmps13]) fun W I => ?_
 repeat' (first
  | refine armXK12_1 ?_
  | exact True.intro | refine stpH ?_ | refine two ?_ ?_ | refine allc fun c_ => ?_
  | (refine imp fun hc => ?_) <;> try exact cx1 hc
  | refine all fun v_ => ?_)
 obtain ⟨bm, rfl⟩ : ∃ x, x = v_ := ⟨v_, rfl⟩
 obtain ⟨bd, rfl⟩ : ∃ x, x = v_ := ⟨v_, rfl⟩
 refine jrow (E := 3) (sz := 1) intC ?_
 refine J_loopV (X := Nat × List Int × Int × Sl) (fun y => [(2, .val (.pointer (some ⟨bd, 0, none⟩))), (5, .d (opsD f)), (6, .val (.pointer (some ⟨bm, 0, none⟩))), (8, .int 0), (7, .int y.2.2.1), (9, .val y.2.2.2.v), (10, .int y.1)]) (fun y => [rowE y.2.2.2.v 3 1 intC y.2.1, .cells bm 25 [.d (varsD (modG d1).vars), .d (rulesD (modG d1).rules)], .cells bd 55 [.int d.s0, .int d.s1, .int d.l0, .int d.l1, .int d.i0, .int d.i1, .d (plansD (d.rules.take (min (d.rules.length : Int) 1).toNat))]]) (fun y => y.2.1.length = y.1 ∧ y.2.1.Nodup ∧ PathG d1 (y.2.1 ++ [y.2.2.1])) (fun y => 40 - y.1) (0, [], firstF (modG d1), Sl.nil) ⟨rfl, List.nodup_nil, PathG.first d1⟩ (VS.take (by exact takedD) ?_) ?_
 · exact leD
 rintro ⟨i, p, c, q⟩ ⟨hi, hnd, w⟩
 dsimp only at hi hnd w ⊢
 have h16 : i ≤ 16 := by
  by_cases h0 : 0 < p.length
  · have := (w.pre h0).1.few hnd
    omega
  · omega
 have hcr := w.last_lt
 have hN := manyG_eq d1
 repeat' (first
  | exact True.intro | refine stpH ?_ | refine two ?_ ?_ | refine allc fun c_ => ?_
  | (refine imp fun hc => ?_) <;> try exact cx1 hc
  | refine all fun v_ => ?_)
 refine J_loopV (X := Nat) (fun j => [(2, .val (.pointer (some ⟨bd, 0, none⟩))), (5, .d (opsD f)), (6, .val (.pointer (some ⟨bm, 0, none⟩))), (8, .int 0), (7, .int c), (9, .val q.v), (10, .int i), (11, .int j)]) (fun _ => [rowE q.v 3 1 intC p, .cells bm 25 [.d (varsD (modG d1).vars), .d (rulesD (modG d1).rules)], .cells bd 55 [.int d.s0, .int d.s1, .int d.l0, .int d.l1, .int d.i0, .int d.i1, .d (plansD (d.rules.take (min (d.rules.length : Int) 1).toNat))]]) (fun j => j ≤ p.length ∧ ∀ (m : Nat) (h : m < p.length), m < j → p[m] ≠ c) (fun j => p.length - j) 0 ⟨Nat.zero_le _, fun m _ h => absurd h (Nat.not_lt_zero m)⟩ (VS.take (by exact takedD) ?_) ?_
 · exact leD
 rintro j ⟨hj, hno⟩
 by_cases hjl : j < p.length
 · by_cases he : p[j] = c
   · obtain ⟨w1, hc1⟩ := w.pre (by omega)
     rw [← he] at hc1
     have hrun := w1.run hjl hc1
     have hk := hKK _ hrun
     have hK := Keeps (tskG d1 f) (p.take j) (p.drop j)
     have hne : ¬ p[j] ≠ c := fun h => h he
     refine J_vs (VS.trans (VS.take (hc := [rowE q.v 3 1 intC p, .cells bd 55 [.int d.s0, .int d.s1, .int d.l0, .int d.l1, .int d.i0, .int d.i1, .d (plansD (d.rules.take (min (d.rules.length : Int) 1).toNat))]]) (by exact takedD) (Env.le_refl _)) (vdat (h1 := []) (h' := [.cells bd 55 [.int d.s0, .int d.s1, .int d.l0, .int d.l1, .int d.i0, .int d.i1, .d (plansD (d.rules.take (min (d.rules.length : Int) 1).toNat))]]) 8 rfl rfl (fun _ => rfl) (by omega) (CvE.cons (t := 9) rfl .here (CvE.refl _ _ _)) (CvH.refl _))) ?_
     by_cases h12 : j ≤ 12
     · by_cases h13 : p.length - j ≤ 12
       · rw [w1.keeps hf hjl hc1 h12 h13, ← hk] at hK
         clear hk hKK
         repeat' (first
          | refine armXK12_2 ?_
          | exact True.intro | refine stpH ?_ | refine two ?_ ?_ | refine allc fun c_ => ?_
          | (refine imp fun hc => ?_) <;> try exact cx1 hc
          | refine all fun v_ => ?_)
         all_goals
          refine retv (VS.drop (List.nil_sublist _)) ?_
          ((with_reducible apply rq1); rfl; rfl)
          exact ret_eq (by cases a <;> simp_all)
       · clear hK hk hKK
         repeat' (first
          | refine armXK12_3 ?_
          | exact True.intro | refine stpH ?_ | refine two ?_ ?_ | refine allc fun c_ => ?_
          | (refine imp fun hc => ?_) <;> try exact cx1 hc
          | refine all fun v_ => ?_)
         all_goals
          refine retv (VS.drop (List.nil_sublist _)) ?_
          ((with_reducible apply rq1); rfl; rfl)
          exact ret_eq (by cases a <;> simp_all)
     · clear hK hk hKK
       repeat' (first
        | refine armXK12_3 ?_
        | exact True.intro | refine stpH ?_ | refine two ?_ ?_ | refine allc fun c_ => ?_
        | (refine imp fun hc => ?_) <;> try exact cx1 hc
        | refine all fun v_ => ?_)
       all_goals
        refine retv (VS.drop (List.nil_sublist _)) ?_
        ((with_reducible apply rq1); rfl; rfl)
        exact ret_eq (by cases a <;> simp_all)
   · have hne : p[j] ≠ c := he
     repeat' (first
      | exact True.intro | refine stpH ?_ | refine two ?_ ?_ | refine allc fun c_ => ?_
      | (refine imp fun hc => ?_) <;> try exact cx1 hc
      | refine all fun v_ => ?_)
     refine ⟨j + 1, ⟨by omega, fun m h hm => ?_⟩, by omega, VS.take (by exact takedD) ?_⟩
     · by_cases hmj : m = j
       · subst hmj; exact he
       · exact hno m h (by omega)
     · exact leD
 obtain rfl : j = p.length := by omega
 have hmem : c ∉ p := fun h => by
  obtain ⟨m, hm, e⟩ := List.getElem_of_mem h
  exact hno m hm hm e
 obtain ⟨x, hx⟩ := one_next hone hcr.1 hcr.2
 have hL := Next (modG d1) c
 rw [(nextF_G d1 hcr.1 hcr.2).1, hx] at hL
 dsimp only at hL
 have hx1 : 0 < [x].length := Nat.succ_pos _
 repeat' (first
  | refine armXK12_4 ?_
  | exact True.intro | refine stpH ?_ | refine two ?_ ?_ | refine allc fun c_ => ?_
  | (refine imp fun hc => ?_) <;> try exact cx1 hc
  | refine all fun v_ => ?_)
 refine ⟨(i + 1, p ++ [c], x, v_), ⟨by simp; omega, List.pairwise_append.2 ⟨hnd, List.pairwise_singleton _ _, fun u hu v hv => ?_⟩, w.more ?_⟩, by dsimp only; omega, VS.take (by dsimp only; exact takedD) ?_⟩
 · rw [List.mem_singleton.1 hv]
   intro e
   exact hmem (e ▸ hu)
 · have e : (p ++ [c])[(p ++ [c]).length - 1]'(by simp) = c := by simp
   rw [e, hx]
   exact List.mem_singleton.2 rfl
 · exact leD
end Go.Proofs.YtniklgkoiaeipaaGreatDoor
