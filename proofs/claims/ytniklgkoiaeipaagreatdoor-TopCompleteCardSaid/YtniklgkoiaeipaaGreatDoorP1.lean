/- A bundle of this claim's own texts: E3 H5 K11 K13. -/
import Derived.Laws.BitsLemmas
import Derived.Laws.BytesString
import Derived.Test.YtniklgkoiaeipaaGreatDoorD1
import Derived.Test.YtniklgkoiaeipaaGreatDoorD2
import Derived.Test.YtniklgkoiaeipaaGreatDoorD35
import Derived.Test.YtniklgkoiaeipaaGreatDoorP2
set_option linter.unusedVariables false
set_option linter.unusedSimpArgs false
set_option maxRecDepth 100000
set_option maxHeartbeats 4000000
namespace Go.Av
open Go
section
variable {P : Program} {G : List (Nat × List D)} {ρ : Env} {h : H} {dst : Option Tmp} {ty : TypeId} {pos : String} {after : Array Edge} {g : Option (Nat × Bool)}
theorem Rel.cut3 {w : World} {I : Nat → Prop} {sz eb n cap : Nat} {rows : List (List D)} {ad : Option Addr} (h : Rel w I (.l sz eb rows) (.slice ad rows.length cap)) (h2 : n ≤ rows.length) : Rel w I (.l sz eb (rows.take n)) (.slice ad n n) := by
 generalize hv : Value.slice ad rows.length cap = v at h
 cases h with
 | nil => cases hv; obtain rfl : n = 0 := by simpa using h2
          exact .nil sz eb
 | emp _ _ ad0 => cases hv; obtain rfl : n = 0 := by simpa using h2
                  exact .emp sz eb ad0
 | l _ _ _ ad0 cap0 css hI hcap hm hb hsz hc hr =>
   cases hv
   have hlen : (rows.take n).length = n := by rw [List.length_take]; omega
   have hg : ∀ (j : Nat) (r : List D), (rows.take n)[j]? = some r → rows[j]? = some r := fun j r hj => by
    rw [List.getElem?_take] at hj
    split at hj
    · exact hj
    · cases hj
   have := Rel.l (w := w) (I := I) sz eb (rows.take n) ad0 n css hI (by omega) (by omega) (Nat.le_trans (Nat.mul_le_mul_right eb (by rw [hlen]; exact h2)) hb) (fun r hr => hsz r (List.mem_of_mem_take hr))
    (fun j u r x hj hx => hc j u r x (hg j r hj) hx) (fun j u r x hj hx => hr j u r x (hg j r hj) hx)
   rwa [hlen] at this
theorem pu_slice_to3 {α : Type} {f : α → List D} {xs : List α} {T E : TypeId} {x hi mx : Operand} {sz eb : Nat} {n : Int} {z : Value} {eb' : Nat} (hx : evO ρ x = some (.d (.l sz eb (xs.map f)))) (hhi : evO ρ hi = some (.int n)) (hmx : evO ρ mx = some (.int n)) (hT : P.underlying T = some (.slice E)) (hE : El P E z sz eb')
 (h0 : 0 ≤ n) (h2 : n ≤ xs.length) : Pure P G ⟨dst, .slice T x none (some hi) (some mx), ty, pos, after, g⟩ ρ h (.d (.l sz eb ((xs.take n.toNat).map f))) :=
 pure_free fun w I _ a hs => by
  obtain ⟨i, hE, _, _, _⟩ := hE.get
  have e1 : Rel w I (.l sz eb (xs.map f)) (a.eval x) := by have := hs.ev x; rw [ev_of_evO hx] at this; exact this
  have e2 := rel_val (hs.ev hi) (ev_of_evO hhi)
  have e3 := rel_val (hs.ev mx) (ev_of_evO hmx)
  obtain ⟨ad, cap, hv, hcap⟩ : ∃ ad cap, a.eval x = .slice ad (xs.map f).length cap ∧ (xs.map f).length ≤ cap := by
   have key : ∀ {rows : List (List D)}, Rel w I (.l sz eb rows) (a.eval x) → ∃ ad cap, a.eval x = .slice ad rows.length cap ∧ rows.length ≤ cap := by
    intro rows e
    generalize a.eval x = v at e
    cases e with
    | nil => exact ⟨none, 0, rfl, Nat.le_refl _⟩
    | emp _ _ ad => exact ⟨some ad, 0, rfl, Nat.le_refl _⟩
    | l _ _ _ ad cap css hI hcap => exact ⟨some ad, cap, rfl, hcap⟩
   exact key e1
  rw [hv] at e1
  have hcut := Rel.cut3 (n := n.toNat) e1 (by simp; omega)
  rw [← List.map_take] at hcut
  refine ⟨_, hcut, fun w' => ?_⟩
  have b1 : 0 ≤ n ∧ n ≤ (cap : Int) := by simp at hcap; omega
  have b2 : n ≤ max n 0 := by omega
  simp [execOp, hv, e2, e3, Instr.sliceAt, run_underlying hT, Instr.slice, Instr.sliceBounds, Instr.sliceBound, asIntOf, b1, b2, sizeOf, typeInfo, hE]
  intro _
  cases ad with
  | none => rfl
  | some ad0 =>
    obtain ⟨bb, oo, ss⟩ := ad0
    cases ss <;> simp [Addr.add]
end
section
variable {k : Kx} {Q : Exit → Env → H → Prop} {ρ ρ' : Env} {h h' : H} {ops : Array Oper} {listed : Array Bool} {l2 : List Oper} {n f s i d : Nat} {op : Op} {ty : TypeId} {pos : String} {after : Array Edge} {pend held : List (Nat × Bool)} {b : Bool}
end
section
variable {k : Kx} {Q : Exit → Env → H → Prop} {ρ ρ' : Env} {h h' : H} {ops : Array Oper} {listed : Array Bool} {n f i j d : Nat} {op : Op} {ty : TypeId} {pos : String} {after : Array Edge}
end
end Go.Av
namespace Go.Proofs.YtniklgkoiaeipaaGreatDoor
open Go Go.Av Go.Sp
structure PathG (d : De) (p : List Int) : Prop where
 head : p[0]? = some (firstF (modG d))
 step : ∀ (i : Nat) (h : i + 1 < p.length), p[i + 1] ∈ (nextF (modG d) p[i]).1
section
variable {d : De} {p : List Int}
theorem PathG.pos (w : PathG d p) : 0 < p.length := by
 have := (List.getElem?_eq_some_iff.1 w.head).1
 exact this
theorem PathG.get0 (w : PathG d p) : p[0]'w.pos = firstF (modG d) := (List.getElem?_eq_some_iff.1 w.head).2
theorem PathG.range_at (w : PathG d p) : ∀ (i : Nat) (h : i < p.length), 0 ≤ p[i] ∧ p[i] < prodV (modG d).vars
 | 0, h => by rw [w.get0]; exact (first_ok (modelF_G d)).2
 | i + 1, h => nextF_range (modelF_G d) _ _ (w.step i h)
theorem PathG.range (w : PathG d p) : ∀ x ∈ p, 0 ≤ x ∧ x < prodV (modG d).vars := fun x hx => by
 obtain ⟨i, hi, rfl⟩ := List.getElem_of_mem hx
 exact w.range_at i hi
theorem PathG.first (d : De) : PathG d [firstF (modG d)] := ⟨rfl, fun i h => absurd h (by simp)⟩
theorem PathG.more (w : PathG d p) {c : Int} (hc : c ∈ (nextF (modG d) (p[p.length - 1]'(by have := w.pos; omega))).1) : PathG d (p ++ [c]) := by
 have hp := w.pos
 refine ⟨by rw [List.getElem?_append_left hp]; exact w.head, fun i h => ?_⟩
 rw [List.length_append, List.length_singleton] at h
 by_cases hi : i + 1 < p.length
 · rw [List.getElem_append_left hi, List.getElem_append_left (by omega)]
   exact w.step i hi
 · obtain rfl : i = p.length - 1 := by omega
   have h1 : p.length ≤ p.length - 1 + 1 := by omega
   have h2 : p.length - 1 < p.length := by omega
   rw [List.getElem_append_right h1, List.getElem_append_left h2]
   simpa using hc
theorem PathG.round (w : PathG d p) {k : Nat} (hk : k < p.length) (hc : p[k] ∈ (nextF (modG d) (p[p.length - 1]'(by omega))).1) : runF (modG d) (p.take k) (p.drop k) = (true, 0) := by
 have hp := w.pos
 have hd : (p.drop k).take 1 = [p[k]] := by rw [List.drop_eq_getElem_cons hk]; rfl
 have hR : roundL (p.take k) (p.drop k) = p ++ [p[k]] := by unfold roundL; rw [List.take_append_drop, hd]
 refine runF_at (modelF_G d) (manyG_eq d).1 ?_ ?_ ⟨fun _ => ?_, fun _ => rfl⟩
 · intro e
   have := congrArg List.length e
   rw [List.length_drop, List.length_nil] at this
   omega
 · rw [List.take_append_drop, List.head?_eq_getElem?]; exact w.head
 · rw [hR]
   intro i hi
   rw [List.length_append, List.length_singleton] at hi
   have e1 : at0 (p ++ [p[k]]) i = p[i]'(by omega) := by
    unfold at0; rw [List.getElem?_append_left (by omega), List.getElem?_eq_getElem (by omega)]; rfl
   have hr := w.range_at i (by omega)
   rw [(manyG_eq d).1] at hr
   refine ⟨by rw [e1]; exact hr, ?_⟩
   rw [e1]
   by_cases h2 : i + 1 < p.length
   · have e2 : at0 (p ++ [p[k]]) (i + 1) = p[i + 1] := by
      unfold at0; rw [List.getElem?_append_left h2, List.getElem?_eq_getElem h2]; rfl
     rw [e2]; exact w.step i h2
   · obtain rfl : i = p.length - 1 := by omega
     have e2 : at0 (p ++ [p[k]]) (p.length - 1 + 1) = p[k] := by
      unfold at0
      rw [show p.length - 1 + 1 = p.length by omega, List.getElem?_append_right (Nat.le_refl _), Nat.sub_self]; rfl
     rw [e2]; exact hc
def rndG (p : List Int) (k i : Nat) : Int := (p[momI k p.length i]?).getD 0
theorem PathG.run (w : PathG d p) {k : Nat} (hk : k < p.length) (hc : p[k] ∈ (nextF (modG d) (p[p.length - 1]'(by omega))).1) : runP (modG d) (rndG p k) := by
 have hp := w.pos
 refine ⟨?_, fun i => ?_⟩
 · show (p[0]?).getD 0 = _
   rw [w.head]; rfl
 · have hm := momI_lt (s := k) (N := p.length) hk i
   unfold rndG
   rw [momI, wnx, List.getElem?_eq_getElem hm]
   by_cases h2 : momI k p.length i + 1 < p.length
   · rw [if_pos h2, List.getElem?_eq_getElem h2]
     exact w.step _ h2
   · rw [if_neg h2, List.getElem?_eq_getElem hk]
     have e : momI k p.length i = p.length - 1 := by omega
     simp only [Option.getD_some, e]
     exact hc
theorem PathG.keeps (w : PathG d p) {f : List Fo} (hf : FoG f) {k : Nat} (hk : k < p.length) (hc : p[k] ∈ (nextF (modG d) (p[p.length - 1]'(by omega))).1) (h1 : k ≤ 12) (h2 : p.length - k ≤ 12) :
 keepsF (tskG d f) (p.take k) (p.drop k) = (iAt f (sgG d (rndG p k)) 0 0, 0) := by
 have hne : p.drop k ≠ [] := by
  intro e
  have := congrArg List.length e
  rw [List.length_drop, List.length_nil] at this
  omega
 have hl : (p.take k).length = k := by rw [List.length_take]; omega
 have hv : ∀ c ∈ p.take k ++ p.drop k, 0 ≤ c ∧ c < prodV (tskG d f).model.vars := by
  rw [List.take_append_drop]; exact w.range
 have hrun := w.round hk hc
 rw [keepsF_word (taskF_G d hf) _ _ hne hv (by show (runF (modG d) _ _).1 = true; rw [hrun]) (by omega) (by rw [List.length_drop]; exact h2), word_run (taskF_G d hf) _ _ hne hv]
 rw [List.take_append_drop, hl]
 rfl
end
theorem cal_kwalk : Cal Tryz.prog 35 := Cal.of Tryz.func35 (by kernel_rfl) (by kernel_rfl)
def WalkG (d : De) (v : List Int × Nat) : Prop := v.1 = [] ∨ (PathG d v.1 ∧ v.1.length ≤ 12 ∧ ∃ hk : v.2 < v.1.length, v.1[v.2] ∈ (nextF (modG d) (v.1[v.1.length - 1]'(by omega))).1)
theorem armXK11_1 {p q : Prop} (hp : p) (h : p → q := by
 apply cmp; (focus (first
  | ((with_reducible apply call0); (focus rfl); (focus exact cal_First); (focus exact hF); (focus rfl))
  | ((with_reducible apply je_call0); (focus rfl); (focus (decide +kernel)); (focus rfl); (focus exact cal_First); (focus exact hF); (focus rfl))
  ))
 exact fun h => h) : q := h hp
theorem armXK11_2 {p q : Prop} (hp : p) (h : p → q := by
 apply cmp; (focus (first
  | ((with_reducible apply call0); (focus rfl); (focus exact cal_Next); (focus exact hL); (focus rfl))
  | ((with_reducible apply je_call0); (focus rfl); (focus (decide +kernel)); (focus rfl); (focus exact cal_Next); (focus exact hL); (focus rfl))
  | ((with_reducible apply call0); (focus rfl); (focus exact cal_Picked); (focus exact hP); (focus rfl))
  | ((with_reducible apply je_call0); (focus rfl); (focus (decide +kernel)); (focus rfl); (focus exact cal_Picked); (focus exact hP); (focus rfl))
  ))
 exact fun h => h) : q := h hp
theorem armXK11_3 {p q : Prop} (hp : p) (h : p → q := by
 apply cmp; (focus (first
  | ((with_reducible apply call0); (focus rfl); (focus exact cal_Picked); (focus exact hP3); (focus rfl))
  | ((with_reducible apply je_call0); (focus rfl); (focus (decide +kernel)); (focus rfl); (focus exact cal_Picked); (focus exact hP3); (focus rfl))
  | ((with_reducible apply qcall); (focus rfl); (focus exact cal_Picked); (focus exact hP3); (focus rfl))
  ))
 exact fun h => h) : q := h hp
theorem armXK11_4 {p q : Prop} (hp : p) (h : p → q := by
 apply cmp; (focus (first
  | ((with_reducible apply call0); (focus rfl); (focus exact cal_Next); (focus exact hL); (focus rfl))
  | ((with_reducible apply je_call0); (focus rfl); (focus (decide +kernel)); (focus rfl); (focus exact cal_Next); (focus exact hL); (focus rfl))
  ))
 exact fun h => h) : q := h hp
theorem kwalk (d : De) (l : List Int) (hl : ∀ x ∈ l, inI64 x) : AC Tryz.prog GP 35 [mdA (modG d), .d (intsD l)] [] fun r h => ∃ v : {v : List Int × Nat // WalkG d v}, r = .ret (.tup [.agg [.d (intsD (v.1.1.take v.1.2)), .d (intsD (v.1.1.drop v.1.2))], .bool true]) ∧ h = [] := by
 have hF : ACr Tryz.prog GP 36 [mdA (modG d)] (.tup [.int (firstF (modG d)), .int (codeF (modG d) (inits (modG d))).2]) := First (modG d)
 rw [(first_ok (modelF_G d)).1] at hF
 refine AC.factI (f := intC) (xs := l) (.there .here) fun hll => ?_
 refine AC_ofR (rs := [.cell 4 43, .tmp 5]) Tryz.f35.ntmps Tryz.func35 rfl rfl rfl (by simp [Tryz.ntmps35]) fun W I => ?_
 repeat' (first
  | refine armXK11_1 ?_
  | refine allocD ?_
  | ((with_reducible apply jrow_i1); (focus rfl); (focus rfl); (focus (with_reducible exact ElC.h)); (focus rfl))
  | with_reducible apply J_seq
  | with_reducible apply J_region
  | with_reducible apply J_block
  | with_reducible apply JL_nil
  | ((with_reducible apply jp); (focus exact pureD); (focus rfl))
  | with_reducible apply tq_normal
  | refine all fun v_ => ?_)
 obtain ⟨q, rfl⟩ : ∃ x, x = v_ := ⟨v_, rfl⟩
 obtain ⟨br, rfl⟩ : ∃ x, x = v_ := ⟨v_, rfl⟩
 obtain ⟨bm, rfl⟩ : ∃ x, x = v_ := ⟨v_, rfl⟩
 refine J_loopV (X := Nat × List Int × Int × Sl) (fun y => [(1, .d (intsD l)), (2, .val (.pointer (some ⟨bm, 0, none⟩))), (4, .val (.pointer (some ⟨br, 0, none⟩))), (6, .int y.2.2.1), (7, .int 0), (8, .val y.2.2.2.v), (9, .int y.1)]) (fun y => [rowE y.2.2.2.v 3 1 intC y.2.1, .cells br 43 [.val (.slice none 0 0), .val (.slice none 0 0)], .cells bm 25 [.d (varsD (modG d).vars), .d (rulesD (modG d).rules)]]) (fun y => y.1 ≤ 12 ∧ y.2.1.length = y.1 + 1 ∧ PathG d y.2.1 ∧ y.2.1[y.1]? = some y.2.2.1) (fun y => 12 - y.1) (0, [firstF (modG d)], firstF (modG d), q) ⟨Nat.zero_le _, rfl, PathG.first d, rfl⟩ (VS.take (by exact takedD) ?_) ?_
 · exact leD
 clear q
 rintro ⟨i, p, c, q⟩ ⟨h12, hpl, w, hc⟩
 dsimp only at h12 hpl w hc ⊢
 have hil : i < p.length := by omega
 rw [List.getElem?_eq_getElem hil] at hc
 have hc := Option.some.inj hc
 have hcr := w.range_at i hil
 rw [hc, (manyG_eq d).1] at hcr
 have hlast : p[p.length - 1]'(by omega) = c := by
  have : p.length - 1 = i := by omega
  simp only [this]; exact hc
 by_cases hi : i < 12
 · obtain ⟨n1, n2, n3, n4⟩ := nextF_G d hcr.1 hcr.2
   have hL := Next (modG d) c
   rw [n1] at hL
   dsimp only at hL
   have hw : ∀ x ∈ (nextF (modG d) c).1, x ∈ (nextF (modG d) (p[p.length - 1]'(by omega))).1 := fun x hx => by rw [hlast]; exact hx
   clear n1
   generalize (nextF (modG d) c).1 = X at hL n2 n3 n4 hw
   have hXr : ∀ (j : Nat) (h : j < X.length), 0 ≤ X[j] ∧ X[j] < manyG d := fun j h => n4 _ (List.getElem_mem h)
   have hXw : ∀ (j : Nat) (h : j < X.length), X[j] ∈ (nextF (modG d) (p[p.length - 1]'(by omega))).1 := fun j h => hw _ (List.getElem_mem h)
   clear n4 hw
   by_cases hii : i < l.length
   · have hk := pkb l[i] (many := (X.length : Int)) (by omega)
     have hkx : (pk l[i] (X.length : Int)).toNat < X.length := by omega
     have hP := Picked GP l[i] (X.length : Int) (by omega) (hl _ (List.getElem_mem hii))
     have hP3 := Picked GP l[i] 3 (by decide) (hl _ (List.getElem_mem hii))
     have hk3 := pkb l[i] (many := 3) (by decide)
     have hcw := hXw _ hkx
     obtain ⟨c', hc'⟩ : ∃ c', c' = X[(pk l[i] (X.length : Int)).toNat]'hkx := ⟨_, rfl⟩
     rw [← hc'] at hcw
     repeat' (first
      | refine armXK11_2 ?_
      | exact True.intro | refine stpH ?_ | refine two ?_ ?_ | refine allc fun c_ => ?_
      | (refine imp fun hc => ?_) <;> try exact cx1 hc
      | refine all fun v_ => ?_)
     rw [← hc']
     refine J_loopV (X := Nat) (fun n => [(1, .d (intsD l)), (2, .val (.pointer (some ⟨bm, 0, none⟩))), (4, .val (.pointer (some ⟨br, 0, none⟩))), (6, .int c'), (7, .int 0), (8, .val q.v), (9, .int i), (13, .int ((n : Int) - 1))]) (fun _ => [rowE q.v 3 1 intC p, .cells br 43 [.val (.slice none 0 0), .val (.slice none 0 0)], .cells bm 25 [.d (varsD (modG d).vars), .d (rulesD (modG d).rules)]]) (fun n => n ≤ p.length) (fun n => n) p.length (Nat.le_refl _) (VS.take (by exact takedD) ?_) ?_
     · exact leD
     intro n hn
     by_cases h0 : n = 0
     · subst h0
       repeat' (first
        | exact True.intro | refine stpH ?_ | refine two ?_ ?_ | refine allc fun c_ => ?_
        | (refine imp fun hc => ?_) <;> try exact cx1 hc
        | refine all fun v_ => ?_)
       refine ⟨(i + 1, p ++ [c'], c', v_), ⟨by omega, by simp; omega, w.more hcw, by rw [List.getElem?_append_right (by omega), show i + 1 - p.length = 0 by omega]; rfl⟩, by dsimp only; omega, VS.take (by dsimp only; exact takedD) ?_⟩
       exact leD
     obtain ⟨m, rfl⟩ : ∃ m, n = m + 1 := ⟨n - 1, by omega⟩
     have hml : m < p.length := by omega
     have ez : (((m + 1 : Nat) : Int) - 1).toNat = m := by omega
     have hzl : (((m + 1 : Nat) : Int) - 1).toNat < p.length := by omega
     have hpe : p[(((m + 1 : Nat) : Int) - 1).toNat]'hzl = p[m] := by simp only [ez]
     by_cases hit : p[m] = c' ∧ (0 < pk l[i] 3)
     · obtain ⟨he, hp0⟩ := hit
       have he' := hpe.trans he
       refine J_vs (VS.trans (VS.take (hc := [rowE q.v 3 1 intC p, .cells br 43 [.val (.slice none 0 0), .val (.slice none 0 0)], .cells bm 25 [.d (varsD (modG d).vars), .d (rulesD (modG d).rules)]]) (by exact takedD) (Env.le_refl _)) (vdat (h1 := []) (h' := [.cells br 43 [.val (.slice none 0 0), .val (.slice none 0 0)], .cells bm 25 [.d (varsD (modG d).vars), .d (rulesD (modG d).rules)]]) 8 rfl rfl (fun _ => rfl) (by omega) (CvE.cons (t := 8) rfl .here (CvE.refl _ _ _)) (CvH.refl _))) ?_
       skip
       repeat' (first
        | refine armXK11_3 ?_
        | exact True.intro | refine stpH ?_ | refine two ?_ ?_ | refine allc fun c_ => ?_
        | (refine imp fun hc => ?_) <;> try exact cx1 hc
        | refine all fun v_ => ?_)
       refine retr (VS.take (hc := [.cells br 43 [.d (intsD (p.take m)), .d (intsD (p.drop m))]]) (by rw [ez]; exact takedD) (Env.le_refl _)) (xs := [.agg [.d (intsD (p.take m)), .d (intsD (p.drop m))], .bool true]) ⟨rv_agg rfl (by (with_reducible exact ElC.h)) rfl (by exact memD) rfl, rv_tmp rfl, trivial⟩ rfl (h' := []) (List.nil_sublist _) ⟨⟨(p, m), .inr ⟨w, by dsimp only; omega, hml, he ▸ hcw⟩⟩, rfl, rfl⟩
     · skip
       by_cases he : p[m] = c'
       · have hp0 : ¬ (0 < pk l[i] 3) := fun h => hit ⟨he, h⟩
         have he' := hpe.trans he
         repeat' (first
          | refine armXK11_3 ?_
          | exact True.intro | refine stpH ?_ | refine two ?_ ?_ | refine allc fun c_ => ?_
          | (refine imp fun hc => ?_) <;> try exact cx1 hc
          | refine all fun v_ => ?_)
         all_goals refine ⟨m, by omega, by omega, VS.take (by exact takedD) ?_⟩
         all_goals exact leD
       · have he' : ¬ p[(((m + 1 : Nat) : Int) - 1).toNat]'hzl = c' := fun h => he (hpe.symm.trans h)
         repeat' (first
          | refine armXK11_3 ?_
          | exact True.intro | refine stpH ?_ | refine two ?_ ?_ | refine allc fun c_ => ?_
          | (refine imp fun hc => ?_) <;> try exact cx1 hc
          | refine all fun v_ => ?_)
         refine ⟨m, by omega, by omega, VS.take (by exact takedD) ?_⟩
         exact leD
   · have hk0 : 0 < X.length := by omega
     have hcw := hXw 0 hk0
     have hP3 := True.intro
     obtain ⟨c', hc'⟩ : ∃ c', c' = X[0]'hk0 := ⟨_, rfl⟩
     rw [← hc'] at hcw
     repeat' (first
      | refine armXK11_4 ?_
      | exact True.intro | refine stpH ?_ | refine two ?_ ?_ | refine allc fun c_ => ?_
      | (refine imp fun hc => ?_) <;> try exact cx1 hc
      | refine all fun v_ => ?_)
     rw [← hc']
     refine J_loopV (X := Nat) (fun n => [(1, .d (intsD l)), (2, .val (.pointer (some ⟨bm, 0, none⟩))), (4, .val (.pointer (some ⟨br, 0, none⟩))), (6, .int c'), (7, .int 0), (8, .val q.v), (9, .int i), (13, .int ((n : Int) - 1))]) (fun _ => [rowE q.v 3 1 intC p, .cells br 43 [.val (.slice none 0 0), .val (.slice none 0 0)], .cells bm 25 [.d (varsD (modG d).vars), .d (rulesD (modG d).rules)]]) (fun n => n ≤ p.length) (fun n => n) p.length (Nat.le_refl _) (VS.take (by exact takedD) ?_) ?_
     · exact leD
     intro n hn
     by_cases h0 : n = 0
     · subst h0
       repeat' (first
        | exact True.intro | refine stpH ?_ | refine two ?_ ?_ | refine allc fun c_ => ?_
        | (refine imp fun hc => ?_) <;> try exact cx1 hc
        | refine all fun v_ => ?_)
       refine ⟨(i + 1, p ++ [c'], c', v_), ⟨by omega, by simp; omega, w.more hcw, by rw [List.getElem?_append_right (by omega), show i + 1 - p.length = 0 by omega]; rfl⟩, by dsimp only; omega, VS.take (by dsimp only; exact takedD) ?_⟩
       exact leD
     obtain ⟨m, rfl⟩ : ∃ m, n = m + 1 := ⟨n - 1, by omega⟩
     have hml : m < p.length := by omega
     have ez : (((m + 1 : Nat) : Int) - 1).toNat = m := by omega
     have hzl : (((m + 1 : Nat) : Int) - 1).toNat < p.length := by omega
     have hpe : p[(((m + 1 : Nat) : Int) - 1).toNat]'hzl = p[m] := by simp only [ez]
     by_cases hit : p[m] = c' ∧ (True)
     · obtain ⟨he, hp0⟩ := hit
       have he' := hpe.trans he
       refine J_vs (VS.trans (VS.take (hc := [rowE q.v 3 1 intC p, .cells br 43 [.val (.slice none 0 0), .val (.slice none 0 0)], .cells bm 25 [.d (varsD (modG d).vars), .d (rulesD (modG d).rules)]]) (by exact takedD) (Env.le_refl _)) (vdat (h1 := []) (h' := [.cells br 43 [.val (.slice none 0 0), .val (.slice none 0 0)], .cells bm 25 [.d (varsD (modG d).vars), .d (rulesD (modG d).rules)]]) 8 rfl rfl (fun _ => rfl) (by omega) (CvE.cons (t := 8) rfl .here (CvE.refl _ _ _)) (CvH.refl _))) ?_
       skip
       repeat' (first
        | refine armXK11_3 ?_
        | exact True.intro | refine stpH ?_ | refine two ?_ ?_ | refine allc fun c_ => ?_
        | (refine imp fun hc => ?_) <;> try exact cx1 hc
        | refine all fun v_ => ?_)
       refine retr (VS.take (hc := [.cells br 43 [.d (intsD (p.take m)), .d (intsD (p.drop m))]]) (by rw [ez]; exact takedD) (Env.le_refl _)) (xs := [.agg [.d (intsD (p.take m)), .d (intsD (p.drop m))], .bool true]) ⟨rv_agg rfl (by (with_reducible exact ElC.h)) rfl (by exact memD) rfl, rv_tmp rfl, trivial⟩ rfl (h' := []) (List.nil_sublist _) ⟨⟨(p, m), .inr ⟨w, by dsimp only; omega, hml, he ▸ hcw⟩⟩, rfl, rfl⟩
     · skip
       by_cases he : p[m] = c'
       · have hp0 : ¬ (True) := fun h => hit ⟨he, h⟩
         have he' := hpe.trans he
         repeat' (first
          | refine armXK11_3 ?_
          | exact True.intro | refine stpH ?_ | refine two ?_ ?_ | refine allc fun c_ => ?_
          | (refine imp fun hc => ?_) <;> try exact cx1 hc
          | refine all fun v_ => ?_)
         all_goals refine ⟨m, by omega, by omega, VS.take (by exact takedD) ?_⟩
         all_goals exact leD
       · have he' : ¬ p[(((m + 1 : Nat) : Int) - 1).toNat]'hzl = c' := fun h => he (hpe.symm.trans h)
         repeat' (first
          | refine armXK11_3 ?_
          | exact True.intro | refine stpH ?_ | refine two ?_ ?_ | refine allc fun c_ => ?_
          | (refine imp fun hc => ?_) <;> try exact cx1 hc
          | refine all fun v_ => ?_)
         refine ⟨m, by omega, by omega, VS.take (by exact takedD) ?_⟩
         exact leD
 · obtain rfl : i = 12 := by omega
   repeat' (first
    | exact True.intro | refine stpH ?_ | refine two ?_ ?_ | refine allc fun c_ => ?_
    | (refine imp fun hc => ?_) <;> try exact cx1 hc
    | refine all fun v_ => ?_)
   refine retrl (xs := [.agg [.val (.slice none 0 0), .val (.slice none 0 0)], .bool true]) (ys := [.agg [.d (intsD []), .d (intsD [])], .bool true]) vid ⟨rv_agg rfl (by (with_reducible exact ElC.h)) rfl (by exact memD) rfl, rv_tmp rfl, trivial⟩ ⟨AV.le_agg ⟨AV.le_nil 1 8, AV.le_nil 1 8, trivial⟩, AV.le_refl _, trivial⟩ rfl (h' := []) (List.nil_sublist _) ⟨⟨([], 0), .inl rfl⟩, rfl, rfl⟩
theorem conf_ints64 {g : Nat} {xs : List D} (h : Conf Tryz.prog (g + 2) 33 xs) : ∃ l : List Int, xs = [intsD l] ∧ ∀ x ∈ l, inI64 x := by
 obtain ⟨l, rfl, _⟩ := conf_slice_of (sz := 1) (eb := 8) Tryz.underlying33 (by kernel_rfl) (by kernel_rfl) (f := fun n : {n : Int // inI64 n} => intC n.1) (fun _ h => by obtain ⟨n, h, hn⟩ := conf_int64 h; exact ⟨⟨n, hn⟩, h⟩) h
 refine ⟨l.map Subtype.val, by show _ = [D.l 1 8 ((l.map Subtype.val).map intC)]; rw [List.map_map]; rfl, fun o ho => ?_⟩
 obtain ⟨x, _, rfl⟩ := List.mem_map.1 ho
 exact x.2
theorem run_holds {d : De} {f : List Fo} {π : Nat → Int} (hp : runP (modG d) π) (h : hldF (tskG d f) = true) : iAt f (sgG d π) 0 0 = true := by
 rw [hldF_iff, holds_G] at h
 exact h π hp
theorem armXK13_1 {p q : Prop} (hp : p) (h : p → q := by
 apply cmp; (focus (first
  | ((with_reducible apply call0); (focus rfl); (focus exact cal_KTask); (focus exact hT); (focus rfl))
  | ((with_reducible apply je_call0); (focus rfl); (focus (decide +kernel)); (focus rfl); (focus exact cal_KTask); (focus exact hT); (focus rfl))
  ))
 exact fun h => h) : q := h hp
theorem armXK13_2 {p q : Prop} (hp : p) (h : p → q := by
 apply cmp; (focus (first
  | ((with_reducible apply call0); (focus rfl); (focus exact cal_VRuns); (focus exact hRn); (focus rfl))
  | ((with_reducible apply je_call0); (focus rfl); (focus (decide +kernel)); (focus rfl); (focus exact cal_VRuns); (focus exact hRn); (focus rfl))
  | ((with_reducible apply call0); (focus rfl); (focus exact cal_Keeps); (focus exact hK); (focus rfl))
  | ((with_reducible apply je_call0); (focus rfl); (focus (decide +kernel)); (focus rfl); (focus exact cal_Keeps); (focus exact hK); (focus rfl))
  ))
 exact fun h => h) : q := h hp
theorem law_TopComplete (d : De) (hd : DeOk d) (raw : List Fo) (hr : rawOk raw) (l : List Int) (hl : ∀ x ∈ l, inI64 x) : ACr Tryz.prog GP 12 [deA d, .d (opsD raw), .d (intsD l)] (.bool true) := by
 have hT := KTask GP d hd raw hr 3 (by decide)
 have hf := FoG.of raw (t := 3) (by decide)
 generalize formG raw 3 = f at hT hf
 have hV := VerK d hf
 have hW := kwalk d l hl
 have hKK := fun (π : Nat → Int) (hp : runP (modG d) π) => run_holds (f := f) hp
 generalize hldF (tskG d f) = a at hV hKK
 refine AC_ofV (ts := [6]) Tryz.f12.ntmps Tryz.func12 rfl rfl rfl (by simp [Tryz.ntmps12]) fun W I => ?_
 repeat' (first
  | refine armXK13_1 ?_
  | ((with_reducible apply callG); (focus rfl); (focus exact cal_VCheck); (focus exact hV); (focus exact takeD); (focus rfl); (focus exact appD))
  | ((with_reducible apply callG); (focus rfl); (focus exact cal_kwalk); (focus exact hW); (focus exact takeD); (focus rfl); (focus exact appD))
  | exact True.intro | refine stpH ?_ | refine two ?_ ?_ | refine allc fun c_ => ?_
  | (refine imp fun hc => ?_) <;> try exact cx1 hc
  | refine all fun v_ => ?_)
 · refine retv (VS.drop (List.nil_sublist _)) ?_
   ((with_reducible apply rq1); rfl; rfl)
   exact ret_eq rfl
 obtain ⟨br, rfl⟩ : ∃ x, x = v_ := ⟨v_, rfl⟩
 obtain ⟨v, rfl⟩ : ∃ x, x = v_ := ⟨v_, rfl⟩
 obtain ⟨⟨p, k⟩, hwk⟩ := v
 dsimp only at hc ⊢
 rcases hwk with e | ⟨w, h12, hk, hc1⟩
 · dsimp only at e
   subst e
   exact absurd (by rw [List.drop_nil]; rfl) hc
 dsimp only at h12 hk hc1
 have hrun := w.run hk hc1
 have hkk := hKK _ hrun
 have hK := Keeps (tskG d f) (p.take k) (p.drop k)
 have h12a : p.length ≤ 12 := h12
 have hka : k < p.length := hk
 rw [w.keeps hf hk hc1 (by omega) (by show p.length - k ≤ 12; omega)] at hK
 have hRn := Runs (tskG d f).model (p.take k) (p.drop k) (by rw [List.length_take, List.length_drop]; omega)
 rw [show runF (tskG d f).model (p.take k) (p.drop k) = (true, 0) from w.round hk hc1] at hRn
 clear hKK hW hV hT
 generalize iAt f (sgG d (rndG p k)) 0 0 = b at hK hkk
 repeat' (first
  | refine armXK13_2 ?_
  | exact True.intro | refine stpH ?_ | refine two ?_ ?_ | refine allc fun c_ => ?_
  | (refine imp fun hc => ?_) <;> try exact cx1 hc
  | refine all fun v_ => ?_)
 all_goals
  refine retv (VS.drop (List.nil_sublist _)) ?_
  ((with_reducible apply rq1); rfl; rfl)
  exact ret_eq (by cases a <;> cases b <;> simp_all)
end Go.Proofs.YtniklgkoiaeipaaGreatDoor
