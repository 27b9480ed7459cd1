/- A bundle of this claim's own texts: W2 V12 N19 H4. -/
import Derived.Test.YtniklgkoiaeipaaGreatDoorD21
import Derived.Test.YtniklgkoiaeipaaGreatDoorD29
import Derived.Test.YtniklgkoiaeipaaGreatDoorD30
import Derived.Test.YtniklgkoiaeipaaGreatDoorD32
import Derived.Test.YtniklgkoiaeipaaGreatDoorD33
set_option linter.unusedVariables false
set_option linter.unusedSimpArgs false
set_option maxRecDepth 100000
set_option maxHeartbeats 4000000
namespace Go.Proofs.YtniklgkoiaeipaaGreatDoor
open Go Go.Av Go.Sp

theorem armXW2_1 {p q : Prop} (hp : p) (h : p → q := by
 apply cmp; (focus (first
  | ((with_reducible apply call0); (focus rfl); (focus exact cal_SParts); (focus exact E); (focus rfl))
  | ((with_reducible apply je_call0); (focus rfl); (focus (decide +kernel)); (focus rfl); (focus exact cal_SParts); (focus exact E); (focus rfl))
  ))
 exact fun h => h) : q := h hp
theorem armXW2_2 {p q : Prop} (hp : p) (h : p → q := by
 apply cmp; (focus (first
  | ((with_reducible apply call0); (focus rfl); (focus exact cal_SParts); (focus exact E); (focus rfl))
  | ((with_reducible apply je_call0); (focus rfl); (focus (decide +kernel)); (focus rfl); (focus exact cal_SParts); (focus exact E); (focus rfl))
  | ((with_reducible apply call0); (focus rfl); (focus exact cal_SReached); (focus exact E2); (focus rfl))
  | ((with_reducible apply je_call0); (focus rfl); (focus (decide +kernel)); (focus rfl); (focus exact cal_SReached); (focus exact E2); (focus rfl))
  | ((with_reducible apply call0); (focus rfl); (focus exact cal_fairC); (focus exact E3); (focus rfl))
  | ((with_reducible apply je_call0); (focus rfl); (focus (decide +kernel)); (focus rfl); (focus exact cal_fairC); (focus exact E3); (focus rfl))
  ))
 exact fun h => h) : q := h hp
theorem SFair (G : List (Nat × List D)) (g : Gr) : ACr Tryz.prog G 105 [grA g] (.tup [.int (fairOf g).1, .int (fairOf g).2]) := by
 refine AC_ofV (ts := [2, 3]) Tryz.f105.ntmps Tryz.func105 rfl rfl rfl (by simp [Tryz.ntmps105]) fun W I => ?_
 have E := SParts G g
 by_cases hk : ¬ okG g
 · rw [partsOf_no hk] at E
   dsimp only at E
   repeat' (first
    | refine armXW2_1 ?_
    | exact True.intro | refine stp2 ?_ | refine two ?_ ?_ | refine allc fun c_ => ?_
    | (refine imp fun hc => ?_) <;> try exact cx hc
    | refine all fun v_ => ?_)
   refine retv (VS.drop (List.nil_sublist _)) ?_
   ((with_reducible apply rq2); rfl; rfl; rfl)
   exact ret_eq (by rw [fairOf_no hk])
 obtain ⟨g, rfl, hok⟩ := okG_nat (Decidable.not_not.1 hk)
 clear hk
 have E2 := SReached G g.gr
 rw [partsOf_ok hok, ← partN_cast, ← natsD_eq] at E
 rw [reachedOf_ok hok] at E2
 rw [gnA_eq] at E E2 ⊢
 dsimp only at E E2
 have hs := hok.size
 have hpl := partN_length g
 have E3 := fairC G g hok (partN g) hpl (partN_lt g)
 have lr : (reachedL g).length = g.spots.length := by simp [reachedL]
 have lf : (fairL g (partN g)).length = g.spots.length := by simp [fairL]
 have fr : ∀ (i : Nat) (h : i < (reachedL g).length), (reachedL g)[i] = true ↔ reachedP g i := fun i h => by simp [reachedL]
 have ff : ∀ (i : Nat) (h : i < (fairL g (partN g)).length), (fairL g (partN g))[i] = true ↔ fairP g (partN g) i := fun i h => by simp [fairL]
 generalize reachedL g = rl at E2 lr fr
 generalize fairL g (partN g) = fl at E3 lf ff
 repeat' (first
  | refine armXW2_2 ?_
  | exact True.intro | refine stp2 ?_ | refine two ?_ ?_ | refine allc fun c_ => ?_
  | (refine imp fun hc => ?_) <;> try exact cx hc
  | refine all fun v_ => ?_)
 rename Nat => bg
 refine J_loopV (X := Nat) (fun i => [(6, .d (boolsD rl)), (25, .d (boolsD fl)), (26, .int g.spots.length), (27, .int i)]) (fun _ => [.cells bg 35 [.d (opsD g.spots), .int g.init, .d (natLD g.next), .d (natsD g.sets), .int g.many]]) (fun i => i ≤ g.spots.length ∧ ∀ j, j < i → ¬ goodP g j) (fun i => g.spots.length - i) 0 ⟨Nat.zero_le _, fun _ h => absurd h (Nat.not_lt_zero _)⟩ (VS.of_le ?_) ?_
 · rw [← lf]
   exact leD
 rintro i ⟨h1, h2⟩
 by_cases hi : ¬ i < g.spots.length
 · obtain rfl : i = g.spots.length := by omega
   repeat' (first
    | exact True.intro | refine stp2 ?_ | refine two ?_ ?_ | refine allc fun c_ => ?_
    | (refine imp fun hc => ?_) <;> try exact cx hc
    | refine all fun v_ => ?_)
   refine retv (VS.drop (List.nil_sublist _)) ?_
   ((with_reducible apply rq2); rfl; rfl; rfl)
   exact ret_eq (by rw [fairOf_ok hok, fairN_none h2])
 replace hi := Decidable.not_not.1 hi
 have g1 := fr i (by omega)
 have g2 := ff i (by omega)
 repeat' (first
  | exact True.intro | refine stp2 ?_ | refine two ?_ ?_ | refine allc fun c_ => ?_
  | (refine imp fun hc => ?_) <;> try exact cx hc
  | refine all fun v_ => ?_)
 all_goals first
  | (refine ⟨i + 1, ⟨by omega, fun j hj => ?_⟩, by omega, VS.of_le ?_⟩
     · by_cases e : j = i
       · subst e
         rintro ⟨a1, a2⟩
         simp_all
       · exact h2 j (by omega)
     · exact leD)
  | (refine retv (VS.drop (List.nil_sublist _)) ?_
     ((with_reducible apply rq2); rfl; rfl; rfl)
     exact ret_eq (by rw [fairOf_ok hok, fairN_at h2 hi ⟨g1.1 (by assumption), g2.1 (by assumption)⟩]))
theorem cal_Lasso : Cal Tryz.prog 60 := Cal.of Tryz.func60 (by kernel_rfl) (by kernel_rfl)
theorem armXV12_1 {p q : Prop} (hp : p) (h : p → q := by
 apply cmp; (focus (first
  | ((with_reducible apply call0); (focus rfl); (focus exact cal_SFair); (focus exact E); (focus rfl))
  | ((with_reducible apply je_call0); (focus rfl); (focus (decide +kernel)); (focus rfl); (focus exact cal_SFair); (focus exact E); (focus rfl))
  ))
 exact fun h => h) : q := h hp
theorem Lasso_no (g : Gr) (h : (fairOf g).2 ≠ 0) : ACr Tryz.prog GP 60 [grA g] (.tup [.agg [.d (intsD []), .d (intsD [])], .int (fairOf g).2]) := by
 have E := SFair GP g
 generalize fairOf g = p at E h ⊢
 obtain ⟨home, e⟩ := p
 dsimp only at E h ⊢
 refine AC_ofR (rs := [.cell 2 43, .tmp 3]) Tryz.f60.ntmps Tryz.func60 rfl rfl rfl (by simp [Tryz.ntmps60]) fun W I => ?_
 repeat' (first
  | refine armXV12_1 ?_
  | exact True.intro | refine stpH ?_ | refine two ?_ ?_ | refine allc fun c_ => ?_
  | (refine imp fun hc => ?_) <;> try exact cx1 hc
  | refine all fun v_ => ?_)
 exact retrl (xs := [.agg [.val (.slice none 0 0), .val (.slice none 0 0)], .int e]) (ys := [.agg [.d (intsD []), .d (intsD [])], .int e]) vid ⟨rv_agg rfl (by (with_reducible exact ElC.h)) rfl (by exact memD) rfl, rv_tmp rfl, trivial⟩ ⟨AV.le_agg ⟨AV.le_nil 1 8, AV.le_nil 1 8, trivial⟩, AV.le_refl _, trivial⟩ rfl (h' := []) (List.nil_sublist _) (ret_eq rfl)
def LasP (g : Gn) (p : List Nat × List Nat) : Prop := FitP g p.1 p.2 ∧ p.1.length ≤ 20000 ∧ p.2.length ≤ 200000
theorem armXV12_2 {p q : Prop} (hp : p) (h : p → q := by
 apply cmp; (focus (first
  | ((with_reducible apply call0); (focus rfl); (focus exact cal_SFair); (focus exact E); (focus rfl))
  | ((with_reducible apply je_call0); (focus rfl); (focus (decide +kernel)); (focus rfl); (focus exact cal_SFair); (focus exact E); (focus rfl))
  | ((with_reducible apply call0); (focus rfl); (focus exact cal_SParts); (focus exact E2); (focus rfl))
  | ((with_reducible apply je_call0); (focus rfl); (focus (decide +kernel)); (focus rfl); (focus exact cal_SParts); (focus exact E2); (focus rfl))
  ))
 exact fun h => h) : q := h hp
theorem Lasso_yes (g : Gn) (hok : g.ok) (home : Nat) (hh : home < g.spots.length) (hg : goodP g home) (hf : fairOf g.gr = ((home : Int), 0)) : AC Tryz.prog GP 60 [gnA g] [] fun r h => ∃ v : {p : List Nat × List Nat // LasP g p}, r = .ret (.tup [.agg [.d (intsD (castL v.1.1)), .d (intsD (castL v.1.2))], .int 0]) ∧ h = [] := by
 have E := SFair GP g.gr
 have E2 := SParts GP g.gr
 rw [hf] at E
 rw [partsOf_ok hok, ← partN_cast, ← natsD_eq] at E2
 rw [gnA_eq] at E E2
 dsimp only at E E2
 have hs := hok.size
 have hi0 := hok.init
 have hm := hok.many
 refine AC_ofR (rs := [.cell 2 43, .tmp 3]) Tryz.f60.ntmps Tryz.func60 rfl rfl rfl (by simp [Tryz.ntmps60]) fun W I => ?_
 repeat' (first
  | refine armXV12_2 ?_
  | exact True.intro | refine stpH ?_ | refine two ?_ ?_ | refine allc fun c_ => ?_
  | (refine imp fun hc => ?_) <;> try exact cx1 hc
  | refine all fun v_ => ?_)
 obtain ⟨bx, rfl⟩ : ∃ x, x = v_ := ⟨v_, rfl⟩
 obtain ⟨bp, rfl⟩ : ∃ x, x = v_ := ⟨v_, rfl⟩
 obtain ⟨bh, rfl⟩ : ∃ x, x = v_ := ⟨v_, rfl⟩
 obtain ⟨b2, rfl⟩ : ∃ x, x = v_ := ⟨v_, rfl⟩
 obtain ⟨bg, rfl⟩ : ∃ x, x = v_ := ⟨v_, rfl⟩
 change J _ _ _ _ [.cells bx 160 [.d (opsD g.spots), .int g.init, .d (natLD g.next), .d (natsD g.sets), .int g.many], .cells bp 33 [.d (natsD (partN g))], .cells bh 3 [.int home], .cells b2 43 [.val (.slice none 0 0), .val (.slice none 0 0)], .cells bg 35 [.d (opsD g.spots), .int g.init, .d (natLD g.next), .d (natsD g.sets), .int g.many]]
 refine jrow (E := 3) (sz := 1) intC ?_
 refine J_loopV (X := Nat × Sl) (fun y => [(1, .val (.pointer (some ⟨bg, 0, none⟩))), (2, .val (.pointer (some ⟨b2, 0, none⟩))), (4, .val (.pointer (some ⟨bh, 0, none⟩))), (6, .val (.pointer (some ⟨bp, 0, none⟩))), (8, .val (.pointer (some ⟨bx, 0, none⟩))), (9, .val y.2.v), (40, .int g.init), (41, .int y.1)]) (fun y => [rowE y.2.v 3 1 intC (castL (List.range y.1)), .cells bh 3 [.int home], .cells bp 33 [.d (natsD (partN g))], .cells bg 35 [.d (opsD g.spots), .int g.init, .d (natLD g.next), .d (natsD g.sets), .int g.many], .cells bx 160 [.d (opsD g.spots), .int g.init, .d (natLD g.next), .d (natsD g.sets), .int g.many], .cells b2 43 [.val (.slice none 0 0), .val (.slice none 0 0)]]) (fun y => y.1 ≤ g.init) (fun y => g.init - y.1) (0, Sl.nil) (Nat.zero_le _) (VS.take (by exact takedD) ?_) ?_
 · exact leD
 rintro ⟨i, q⟩ hi
 dsimp only at hi ⊢
 have hil : (castL (List.range i)).length = i := by simp
 by_cases hlt : i < g.init
 · have hsu : castL (List.range (i + 1)) = castL (List.range i) ++ [(i : Int)] := by simp [List.range_succ]
   repeat' (first
    | exact True.intro | refine stpA ?_ | refine two ?_ ?_
    | (refine imp fun hc => ?_) <;> try exact cx hc
    | refine all fun v_ => ?_)
   refine ⟨(i + 1, v_), by dsimp only; omega, by dsimp only; omega, VS.take (by dsimp only; rw [hsu]; exact takedD) ?_⟩
   exact leD
 obtain rfl : i = g.init := by omega
 have hi1 : 0 < g.init := by obtain ⟨j, hj, _⟩ := hg.1; omega
 have F1 := way g hok (List.range g.init) (fun _ => true) (fun k => decide (k = home)) 108 109 #[] #[.pointer (some ⟨bh, 0, none⟩)] (.cells bh 3 [.int home]) (.cells bp 33 [.d (natsD (partN g))]) (.cells bg 35 [.d (opsD g.spots), .int g.init, .d (natLD g.next), .d (natsD g.sets), .int g.many]) (.cells bx 160 [.d (opsD g.spots), .int g.init, .d (natLD g.next), .d (natsD g.sets), .int g.many]) cal_lasso1 cal_lasso2 (fun k _ => las1 k _ _ _ _) (fun k _ => las2 home k bh _ _ _) (by intro e; have := congrArg List.length e; simp at this; omega) List.nodup_range (fun k hk => by have := List.mem_range.1 hk; omega)
 refine J_vs (vfreeze (t := 9) (eb := 8) rfl rfl (fun x => rfl) (by rw [hil]; omega)) ?_
 repeat' (first
  | ((with_reducible apply jp); (focus ((with_reducible apply pu_func1); (focus rfl))); (focus rfl))
  | exact True.intro | refine stpA ?_ | refine two ?_ ?_
  | (refine imp fun hc => ?_) <;> try exact cx hc
  | refine all fun v_ => ?_)
 apply callG
 · rfl
 · exact cal_way
 · exact F1
 · exact takeD
 · rfl
 · exact appD
 refine all fun w1 => ?_
 obtain ⟨ws, hw1, hwl1⟩ := w1
 dsimp only
 refine jp (pu_assign rfl) rfl ?_
 refine JL_nil ?_
 refine tq_normal ?_
 refine J_seq (J_cutT (X := Unit) (fun _ => [(1, .val (.pointer (some ⟨bg, 0, none⟩))), (2, .val (.pointer (some ⟨b2, 0, none⟩))), (4, .val (.pointer (some ⟨bh, 0, none⟩))), (6, .val (.pointer (some ⟨bp, 0, none⟩))), (8, .val (.pointer (some ⟨bx, 0, none⟩))), (11, .d (intsD (castL ws))), (12, .val (.func (.func 110) #[] #[.pointer (some ⟨bp, 0, none⟩), .pointer (some ⟨bh, 0, none⟩)]))]) (fun _ => [.cells bh 3 [.int home], .cells bp 33 [.d (natsD (partN g))], .cells bg 35 [.d (opsD g.spots), .int g.init, .d (natLD g.next), .d (natsD g.sets), .int g.many], .cells bx 160 [.d (opsD g.spots), .int g.init, .d (natLD g.next), .d (natsD g.sets), .int g.many], .cells b2 43 [.val (.slice none 0 0), .val (.slice none 0 0)]]) ?_ fun _ => ?_)
 · repeat' (first
    | ((with_reducible apply jp); (focus ((with_reducible apply pu_func1); (focus rfl))); (focus rfl))
    | exact True.intro | refine stpA ?_ | refine two ?_ ?_
    | (refine imp fun hc => ?_) <;> try exact cx hc
    | refine all fun v_ => ?_)
   exact ⟨(), VS.take (by exact takedD) (by exact leD)⟩
 refine J_seq (J_region ?_)
 refine jp (r := .int home) (pu_load_cells rfl rfl (by exact memD) rfl) rfl ?_
 refine jrow_i1 rfl rfl (by (with_reducible exact ElC.h)) rfl ?_
 refine all fun q1 => ?_
 have hsl := hok.sets
 have hsn := ni_get g.sets home (by omega)
 repeat' (first
  | exact True.intro | refine stpA ?_ | refine two ?_ ?_
  | (refine imp fun hc => ?_) <;> try exact cx hc
  | refine all fun v_ => ?_)
 refine J_loopV (X := Nat × List Nat × Sl × Nat × Nat) (fun y => [(1, .val (.pointer (some ⟨bg, 0, none⟩))), (2, .val (.pointer (some ⟨b2, 0, none⟩))), (4, .val (.pointer (some ⟨bh, 0, none⟩))), (6, .val (.pointer (some ⟨bp, 0, none⟩))), (8, .val (.pointer (some ⟨bx, 0, none⟩))), (11, .d (intsD (castL ws))), (12, .val (.func (.func 110) #[] #[.pointer (some ⟨bp, 0, none⟩), .pointer (some ⟨bh, 0, none⟩)])), (13, .val y.2.2.1.v), (14, .int y.2.2.2.1), (15, .int y.2.2.2.2), (63, .int g.many), (64, .int y.1)]) (fun y => [rowE y.2.2.1.v 3 1 intC (castL y.2.1), .cells bh 3 [.int home], .cells bp 33 [.d (natsD (partN g))], .cells bg 35 [.d (opsD g.spots), .int g.init, .d (natLD g.next), .d (natsD g.sets), .int g.many], .cells bx 160 [.d (opsD g.spots), .int g.init, .d (natLD g.next), .d (natsD g.sets), .int g.many], .cells b2 43 [.val (.slice none 0 0), .val (.slice none 0 0)]]) (fun y => y.1 ≤ g.many ∧ LasI g home y.1 y.2.1 y.2.2.2.1 ∧ y.2.1.getLast? = some y.2.2.2.2 ∧ y.2.1.length ≤ 1 + 20000 * y.1 ∧ y.2.2.2.1 < 64) (fun y => g.many - y.1) (0, [home], q1, g.sets[home], home) ⟨Nat.zero_le _, hsn ▸ LasI.start hh hg.2, rfl, Nat.le_refl _, ?_⟩ (VS.take (by exact takedD) ?_) ?_
 · have h1 := hok.bits home (by omega)
   exact Nat.lt_of_lt_of_le h1 (by have := Nat.pow_le_pow_right (n := 2) (by decide) hm; exact this)
 · exact leD
 rintro ⟨b, l, q2, met, a⟩ ⟨hb, hL, hla, hll, hmet⟩
 dsimp only at hb hL hla hll hmet ⊢
 have hbit : (bits .and .i64 ((met : Int) / 2 ^ (b : Int).toNat) 1 = 1) ↔ met.testBit b = true := by
  have e1 : (b : Int).toNat = b := Int.toNat_natCast b
  have e2 : (met : Int) / 2 ^ b = ((met / 2 ^ b : Nat) : Int) := by simp
  have e3 : met / 2 ^ b ≤ met := Nat.div_le_self _ _
  rw [← bit_div, e1]
  generalize met / 2 ^ b = z at e2 e3
  rw [and1 (by rw [e2]; omega) (by rw [e2]; omega)]
 by_cases hbm : b < g.many
 · have hal := hL.ins a (List.mem_of_getLast? hla)
   obtain ⟨hal1, hal2⟩ := hal
   repeat' (first
    | exact True.intro | refine stpA ?_ | refine two ?_ ?_
    | (refine imp fun hc => ?_) <;> try exact cx hc
    | refine all fun v_ => ?_)
   · refine ⟨(b + 1, l, q2, met, a), ⟨by dsimp only; omega, hL.skip (hbit.1 (by assumption)), hla, by dsimp only; omega, hmet⟩, by dsimp only; omega, VS.take (by exact takedD) ?_⟩
     exact leD
   obtain ⟨bb, rfl⟩ : ∃ x, x = v_ := ⟨v_, rfl⟩
   have F2 := way g hok [a] (insP g home) (fun k => (ni g.sets k).testBit b) 110 111 #[.pointer (some ⟨bp, 0, none⟩), .pointer (some ⟨bh, 0, none⟩)] #[.pointer (some ⟨bg, 0, none⟩), .pointer (some ⟨bb, 0, none⟩)] (.cells bh 3 [.int home]) (.cells bp 33 [.d (natsD (partN g))]) (.cells bg 35 [.d (opsD g.spots), .int g.init, .d (natLD g.next), .d (natsD g.sets), .int g.many]) (.cells bb 3 [.int b]) cal_lasso3 cal_lasso4 (fun k hk => las3 g home k hk _ _ _ _) (fun k hk => las4 g hok b k hk (by omega) _ _ _ _) (by simp) (List.nodup_cons.2 ⟨List.not_mem_nil, List.nodup_nil⟩) (fun k hk => by rw [List.mem_singleton.1 hk]; exact hal1)
   apply callG
   · rfl
   · exact cal_way
   · exact F2
   · exact takeD
   · rfl
   · exact appD
   refine all fun w2 => ?_
   obtain ⟨lw, hw2, hwl2⟩ := w2
   dsimp only
   obtain ⟨v, hv1, hv2⟩ := bit_found hok hg.2 hal1 hal2 hbm
   have hG := hw2.found hv1 hv2
   obtain ⟨t, rfl⟩ := hG.cons
   clear F2 F1
   repeat' (first
    | exact True.intro | refine stpA ?_ | refine two ?_ ?_
    | (refine imp fun hc => ?_) <;> try exact cx hc
    | refine all fun v_ => ?_)
   have h64 := (many64 hok).2
   refine J_loopV (X := Nat × Nat) (fun y => [(1, .val (.pointer (some ⟨bg, 0, none⟩))), (2, .val (.pointer (some ⟨b2, 0, none⟩))), (4, .val (.pointer (some ⟨bh, 0, none⟩))), (6, .val (.pointer (some ⟨bp, 0, none⟩))), (8, .val (.pointer (some ⟨bx, 0, none⟩))), (11, .d (intsD (castL ws))), (12, .val (.func (.func 110) #[] #[.pointer (some ⟨bp, 0, none⟩), .pointer (some ⟨bh, 0, none⟩)])), (13, .val q2.v), (14, .int y.2), (17, .d (intsD (castL (a :: t)))), (63, .int g.many), (64, .int b), (79, .d (natsD t)), (80, .int t.length), (81, .int y.1)]) (fun y => [rowE q2.v 3 1 intC (castL l), .cells bh 3 [.int home], .cells bp 33 [.d (natsD (partN g))], .cells bg 35 [.d (opsD g.spots), .int g.init, .d (natLD g.next), .d (natsD g.sets), .int g.many], .cells bx 160 [.d (opsD g.spots), .int g.init, .d (natLD g.next), .d (natsD g.sets), .int g.many], .cells b2 43 [.val (.slice none 0 0), .val (.slice none 0 0)]]) (fun y => y.1 ≤ t.length ∧ y.2 < 64 ∧ ∀ s, y.2.testBit s = true → met.testBit s = true ∨ ∃ x ∈ t.take y.1, (ni g.sets x).testBit s = true) (fun y => t.length - y.1) (0, met) ⟨Nat.zero_le _, hmet, fun s h => .inl h⟩ (VS.take (by exact takedD) ?_) ?_
   · rw [natsD_eq t, show t.length = (castL t).length by simp]; exact leD
   rintro ⟨j, m2⟩ ⟨hj, hm2, hms⟩
   dsimp only at hj hm2 hms ⊢
   have htl : t.length + 1 ≤ g.spots.length := hwl2
   by_cases hjt : j < t.length
   · have htn := hG.lt t[j] (List.mem_cons_of_mem _ (List.getElem_mem hjt))
     have hgs := ni_get g.sets t[j] (by omega)
     have hsl2 := sets_lt hok t[j]
     have hor : bits .or .i64 (m2 : Int) ((ni g.sets t[j] : Nat) : Int) = ((m2 ||| ni g.sets t[j] : Nat) : Int) := (bits_nat .i64 63 (by decide) wraps_i64 m2 (ni g.sets t[j]) (by omega) (by omega)).2
     rw [hgs] at hor
     repeat' (first
      | exact True.intro | refine stpA ?_ | refine two ?_ ?_
      | (refine imp fun hc => ?_) <;> try exact cx hc
      | refine all fun v_ => ?_)
     refine ⟨(j + 1, m2 ||| ni g.sets t[j]), ⟨by dsimp only; omega, Nat.or_lt_two_pow (n := 6) hm2 (by omega), fun s h => ?_⟩, by dsimp only; omega, VS.take (by exact takedD) ?_⟩
     · dsimp only at h ⊢
       rw [Nat.testBit_or, Bool.or_eq_true] at h
       rw [List.take_succ_eq_append_getElem hjt]
       rcases h with h | h
       · rcases hms s h with h | ⟨x, hx, e⟩
         · exact .inl h
         · exact .inr ⟨x, List.mem_append_left _ hx, e⟩
       · exact .inr ⟨_, List.mem_append_right _ (List.mem_singleton.2 rfl), h⟩
     · dsimp only
       rw [hgs, ← hor]
       exact leD
   obtain rfl : j = t.length := by omega
   rw [List.take_length] at hms
   have hcl : (castL l).length = l.length := by simp
   have hct : (castL t).length = t.length := by simp
   have hlne : 0 < l.length := List.length_pos_iff.2 hL.ne
   repeat' (first
    | exact True.intro | refine stpA ?_ | refine two ?_ ?_
    | (refine imp fun hc => ?_) <;> try exact cx hc
    | refine all fun v_ => ?_)
   have ec : castL l ++ List.drop (Int.toNat 1) (castL (a :: t)) = castL (l ++ t) := by simp [castL]
   have ecl : (castL (l ++ t)).length = l.length + t.length := by simp
   rw [ec]
   repeat' (first
    | exact True.intro | refine stpA ?_ | refine two ?_ ?_
    | (refine imp fun hc => ?_) <;> try exact cx hc
    | refine all fun v_ => ?_)
   have hne : l ++ t ≠ [] := List.length_pos_iff.1 (by rw [List.length_append]; omega)
   have hz : ∀ h, (castL (l ++ t))[((castL (l ++ t)).length - 1 : Int).toNat]'h = (((l ++ t).getLast hne : Nat) : Int) := fun h => by
    rw [List.getLast_eq_getElem, List.getElem_map]
    congr 2
    rw [ecl, List.length_append]
    omega
   refine ⟨(b + 1, l ++ t, v_, m2, (l ++ t).getLast hne), ⟨by dsimp only; omega, hL.join hla hG hms, List.getLast?_eq_some_getLast hne, by dsimp only; rw [List.length_append]; omega, hm2⟩, by dsimp only; omega, VS.take (by exact takedD) ?_⟩
   dsimp only
   rw [← hz (by omega)]
   exact leD
 obtain rfl : b = g.many := by omega
 obtain ⟨hal1, hal2⟩ := hL.ins a (List.mem_of_getLast? hla)
 have hnl := hok.next
 have hnx := g.nx_get a (by omega)
 repeat' (first
  | exact True.intro | refine stpA ?_ | refine two ?_ ?_
  | (refine imp fun hc => ?_) <;> try exact cx hc
  | refine all fun v_ => ?_)
 refine J_loopV (X := Nat) (fun j => [(1, .val (.pointer (some ⟨bg, 0, none⟩))), (2, .val (.pointer (some ⟨b2, 0, none⟩))), (4, .val (.pointer (some ⟨bh, 0, none⟩))), (6, .val (.pointer (some ⟨bp, 0, none⟩))), (8, .val (.pointer (some ⟨bx, 0, none⟩))), (11, .d (intsD (castL ws))), (12, .val (.func (.func 110) #[] #[.pointer (some ⟨bp, 0, none⟩), .pointer (some ⟨bh, 0, none⟩)])), (13, .val q2.v), (108, .d (natsD g.next[a])), (109, .int g.next[a].length), (110, .int j)]) (fun _ => [rowE q2.v 3 1 intC (castL l), .cells bh 3 [.int home], .cells bp 33 [.d (natsD (partN g))], .cells bg 35 [.d (opsD g.spots), .int g.init, .d (natLD g.next), .d (natsD g.sets), .int g.many], .cells bx 160 [.d (opsD g.spots), .int g.init, .d (natLD g.next), .d (natsD g.sets), .int g.many], .cells b2 43 [.val (.slice none 0 0), .val (.slice none 0 0)]]) (fun j => j ≤ g.next[a].length ∧ ∀ x ∈ g.next[a].take j, insP g home x = false) (fun j => g.next[a].length - j) 0 ⟨Nat.zero_le _, fun x hx => (by cases hx)⟩ (VS.take (by exact takedD) ?_) ?_
 · exact leD
 rintro j ⟨hj, hno⟩
 refine jfact (t := 108) rfl fun hlj => ?_
 by_cases hjl : j < g.next[a].length
 · have hka : g.next[a][j] ∈ g.nx a := by rw [hnx]; exact List.getElem_mem hjl
   have hkn := g.nx_lt hok a _ hka
   have hc3 := las3 g home g.next[a][j] hkn bh bp (.cells bg 35 [.d (opsD g.spots), .int g.init, .d (natLD g.next), .d (natsD g.sets), .int g.many]) (.cells bx 160 [.d (opsD g.spots), .int g.init, .d (natLD g.next), .d (natsD g.sets), .int g.many])
   cases hin : insP g home g.next[a][j] with
   | false =>
     rw [hin] at hc3
     repeat' (first
      | ((with_reducible apply callGV); (focus rfl); (focus rfl); (focus exact cal_lasso3); (focus exact hc3); (focus exact takeD); (focus rfl); (focus exact appD))
      | exact True.intro | refine stpA ?_ | refine two ?_ ?_
      | (refine imp fun hc => ?_) <;> try exact cx hc
      | refine all fun v_ => ?_)
     refine ⟨j + 1, ⟨hjl, fun x hx => ?_⟩, by omega, VS.take (by exact takedD) ?_⟩
     · rw [List.take_succ_eq_append_getElem hjl] at hx
       rcases List.mem_append.1 hx with hx | hx
       · exact hno x hx
       · rw [List.mem_singleton.1 hx]; exact hin
     · exact leD
   | true =>
     rw [hin] at hc3
     repeat' (first
      | ((with_reducible apply jp); (focus ((with_reducible apply pu_func1); (focus rfl))); (focus rfl))
      | ((with_reducible apply callGV); (focus rfl); (focus rfl); (focus exact cal_lasso3); (focus exact hc3); (focus exact takeD); (focus rfl); (focus exact appD))
      | exact True.intro | refine stpA ?_ | refine two ?_ ?_
      | (refine imp fun hc => ?_) <;> try exact cx hc
      | refine all fun v_ => ?_)
     have hkh : ni (partN g) g.next[a][j] = home := of_decide_eq_true hin
     have F3 := way g hok [g.next[a][j]] (insP g home) (fun k => decide (k = home)) 110 112 #[.pointer (some ⟨bp, 0, none⟩), .pointer (some ⟨bh, 0, none⟩)] #[.pointer (some ⟨bh, 0, none⟩)] (.cells bh 3 [.int home]) (.cells bp 33 [.d (natsD (partN g))]) (.cells bg 35 [.d (opsD g.spots), .int g.init, .d (natLD g.next), .d (natsD g.sets), .int g.many]) (.cells bx 160 [.d (opsD g.spots), .int g.init, .d (natLD g.next), .d (natsD g.sets), .int g.many]) cal_lasso3 cal_lasso5 (fun k hk => las3 g home k hk _ _ _ _) (fun k _ => las5 home k bh _ _ _) (by simp) (List.nodup_cons.2 ⟨List.not_mem_nil, List.nodup_nil⟩) (fun k hk => by rw [List.mem_singleton.1 hk]; exact hkn)
     apply callG
     · rfl
     · exact cal_way
     · exact F3
     · exact takeD
     · rfl
     · exact appD
     refine all fun w3 => ?_
     obtain ⟨lw, hw3, hwl3⟩ := w3
     dsimp only
     have hG3 := hw3.found (home_found hok hh hg.2 hkn hkh) (decide_eq_true rfl)
     have hG1 := hw1.found (stem_found hg.1) (decide_eq_true rfl)
     have hlp3 := List.length_pos_iff.2 hG3.ne
     have hlp1 := List.length_pos_iff.2 hG1.ne
     have hc3 : (castL lw).length = lw.length := by simp
     have hc1 : (castL ws).length = ws.length := by simp
     have hcl : (castL l).length = l.length := by simp
     clear F3 F1
     repeat' (first
      | exact True.intro | refine stpA ?_ | refine two ?_ ?_
      | (refine imp fun hc => ?_) <;> try exact cx hc
      | refine all fun v_ => ?_)
     have eS : List.take (((castL ws).length : Int) - 1).toNat (castL ws) = castL ws.dropLast := by
      rw [List.dropLast_eq_take, hc1, show ((ws.length : Int) - 1).toNat = ws.length - 1 by omega, ← List.map_take]
     have eX : castL l ++ List.take (((castL lw).length : Int) - 1).toNat (castL lw) = castL (l ++ lw.dropLast) := by
      rw [List.dropLast_eq_take, hc3, show ((lw.length : Int) - 1).toNat = lw.length - 1 by omega, ← List.map_take]
      exact List.map_append.symm
     rw [eS, eX]
     have hlx : (castL (l ++ lw.dropLast)).length ≤ 200000 := by rw [List.length_map, List.length_append, List.length_dropLast]; omega
     refine retr (VS.trans (VS.take (hc := [rowE v_.v 3 1 intC (castL (l ++ lw.dropLast)), .cells b2 43 [.d (intsD (castL ws.dropLast)), .val v_.v]]) (by exact takedD) (Env.le_refl _)) (vdat (h1 := []) (h' := [.cells b2 43 [.d (intsD (castL ws.dropLast)), .d (intsD (castL (l ++ lw.dropLast)))]]) 8 rfl rfl (fun _ => rfl) (by omega) (CvE.refl _ _ _) (CvH.cells (.cons (.same _) (.cons .here .nil)) (.refl _)))) (xs := [.agg [.d (intsD (castL ws.dropLast)), .d (intsD (castL (l ++ lw.dropLast)))], .int 0]) ⟨rv_agg rfl (by (with_reducible exact ElC.h)) rfl (by exact memD) rfl, rv_tmp rfl, trivial⟩ rfl (h' := []) (List.nil_sublist _) ?_
     refine ⟨⟨(ws.dropLast, l ++ lw.dropLast), hL.fits hla hka hin hG1 hG3, ?_, ?_⟩, rfl, rfl⟩
     · rw [List.length_dropLast]; omega
     · rw [List.length_map] at hlx; exact hlx
 · exfalso
   obtain ⟨k, hk, hki⟩ := next_found hok hg.2 hal1 hal2
   rw [hnx] at hk
   have e : j = g.next[a].length := by omega
   have := hno k (by rw [e, List.take_length]; exact hk)
   rw [hki] at this; cases this
end Go.Proofs.YtniklgkoiaeipaaGreatDoor
namespace Go.Sp
open Go Go.Av
abbrev vdA (b : Bool) (stem loop : List Int) : AV := .agg [.bool b, .d (intsD stem), .d (intsD loop)]
def stS (sp : List Fo) (l : List Nat) : List Int := l.map fun k => ((sp[k]?).map Fo.kind).getD 0
theorem stS_len (sp : List Fo) (l : List Nat) : (stS sp l).length = l.length := by simp [stS]
theorem stS_take (sp : List Fo) (l : List Nat) (j : Nat) (h : j < l.length) (hl : l[j] < sp.length) : (stS sp l).take (j + 1) = (stS sp l).take j ++ [sp[l[j]].kind] := by
 have h2 : j < (stS sp l).length := by rw [stS_len]; exact h
 rw [List.take_succ_eq_append_getElem h2]
 simp [stS, List.getElem?_eq_getElem hl]
theorem exG_some {t : Tk} {e : Exp} (h : exploreF t = (some e, 0)) : exG t = (gnF t e).gr ∧ Grown t e := by
 have g := grown_of h
 refine ⟨?_, g⟩
 rw [g.gr]; unfold exG grF; rw [h]
theorem fair_someN {g : Gn} (hok : g.ok) (h : (fairOf g.gr).2 = 0) : ∃ home : Nat, home < g.spots.length ∧ goodP g home ∧ fairOf g.gr = ((home : Int), 0) := by
 rw [fairOf_ok hok] at h ⊢
 cases hf : (List.range g.spots.length).find? fun i => decide (goodP g i) with
 | none => rw [fairN, hf] at h; cases h
 | some i =>
   have hi := List.mem_range.1 (List.mem_of_find?_eq_some hf)
   have hg : goodP g i := by have := List.find?_some hf; exact of_decide_eq_true this
   exact ⟨i, hi, hg, by rw [fairN, hf]⟩
end Go.Sp
namespace Go.Proofs.YtniklgkoiaeipaaGreatDoor
open Go Go.Av Go.Sp
theorem cal_VCheck : Cal Tryz.prog 19 := Cal.of Tryz.func19 (by kernel_rfl) (by kernel_rfl)
theorem armXN19_1 {p q : Prop} (hp : p) (h : p → q := by
 apply cmp; (focus (first
  | ((with_reducible apply call0); (focus rfl); (focus exact cal_Explore); (focus exact hE); (focus rfl))
  | ((with_reducible apply je_call0); (focus rfl); (focus (decide +kernel)); (focus rfl); (focus exact cal_Explore); (focus exact hE); (focus rfl))
  ))
 exact fun h => h) : q := h hp
theorem armXN19_2 {p q : Prop} (hp : p) (h : p → q := by
 apply cmp; (focus (first
  | ((with_reducible apply call0); (focus rfl); (focus exact cal_Explore); (focus exact hE); (focus rfl))
  | ((with_reducible apply je_call0); (focus rfl); (focus (decide +kernel)); (focus rfl); (focus exact cal_Explore); (focus exact hE); (focus rfl))
  | ((with_reducible apply call0); (focus rfl); (focus exact cal_Lasso); (focus exact hL); (focus rfl))
  | ((with_reducible apply je_call0); (focus rfl); (focus (decide +kernel)); (focus rfl); (focus exact cal_Lasso); (focus exact hL); (focus rfl))
  ))
 exact fun h => h) : q := h hp
theorem VCheck_holds (t : Tk) (h : (exploreF t).2 = 0) (hf : (fairOf (exG t)).2 ≠ 0) : ACr Tryz.prog GP 19 [tkA t] (.tup [vdA true [] [], .int 0]) := by
 have hE := Explore t
 have hL := Lasso_no (exG t) hf
 rw [h] at hE
 generalize fairOf (exG t) = p at hf hL
 obtain ⟨home, e⟩ := p
 dsimp only at hf hL
 refine AC_ofR (rs := [.cell 2 45, .tmp 3]) Tryz.f19.ntmps Tryz.func19 rfl rfl rfl (by simp [Tryz.ntmps19]) fun W I => ?_
 repeat' (first
  | refine armXN19_2 ?_
  | exact True.intro | refine stpH ?_ | refine two ?_ ?_ | refine allc fun c_ => ?_
  | (refine imp fun hc => ?_) <;> try exact cx1 hc
  | refine all fun v_ => ?_)
 exact retrl (xs := [.agg [.bool true, .val (.slice none 0 0), .val (.slice none 0 0)], .int 0]) (ys := [vdA true [] [], .int 0]) vid ⟨rv_agg rfl (by (with_reducible exact ElC.h)) rfl (by exact memD) rfl, rv_tmp rfl, trivial⟩ ⟨AV.le_agg ⟨AV.le_refl _, AV.le_nil 1 8, AV.le_nil 1 8, trivial⟩, AV.le_refl _, trivial⟩ rfl (h' := []) (List.nil_sublist _) (ret_eq rfl)
theorem VCheck_no (t : Tk) (e : Exp) (h : exploreF t = (some e, 0)) (hf : (fairOf (exG t)).2 = 0) : AC Tryz.prog GP 19 [tkA t] [] fun r h => ∃ v : {p : List Nat × List Nat // LasP (gnF t e) p}, r = .ret (.tup [vdA false (stS e.spots v.1.1) (stS e.spots v.1.2), .int 0]) ∧ h = [] := by
 obtain ⟨eG, g⟩ := exG_some h
 have hE := Explore t
 have e2 : (exploreF t).2 = 0 := by rw [h]
 rw [e2, eG, gnA_eq] at hE
 rw [eG] at hf
 obtain ⟨home, hh, hg, hfe⟩ := fair_someN g.ok hf
 have hL0 := Lasso_yes (gnF t e) g.ok home hh hg hfe
 have hL : AC Tryz.prog GP 60 [gnA (gnF t e)] [] fun r h => ∃ v : {p : List Nat × List Nat // LasP (gnF t e) p}, r = .ret (.tup [.agg [.d (natsD v.1.1), .d (natsD v.1.2)], .int 0]) ∧ h = [] := by
  simp only [natsD_eq]; exact hL0
 have hlt : ∀ v : {p : List Nat × List Nat // LasP (gnF t e) p}, (∀ a ∈ v.1.1, a < e.spots.length) ∧ ∀ a ∈ v.1.2, a < e.spots.length := fun v =>
  ⟨fun a ha => v.2.1.lt a (List.mem_append_left _ ha), fun a ha => v.2.1.lt a (List.mem_append_right _ ha)⟩
 have hes := g.few
 refine AC_ofR (rs := [.cell 2 45, .tmp 3]) Tryz.f19.ntmps Tryz.func19 rfl rfl rfl (by simp [Tryz.ntmps19]) fun W I => ?_
 repeat' (first
  | refine armXN19_1 ?_
  | ((with_reducible apply callG); (focus rfl); (focus exact cal_Lasso); (focus exact hL); (focus exact takeD); (focus rfl); (focus exact appD))
  | exact True.intro | refine stpH ?_ | refine two ?_ ?_ | refine allc fun c_ => ?_
  | (refine imp fun hc => ?_) <;> try exact cx1 hc
  | refine all fun v_ => ?_)
 obtain ⟨bv, rfl⟩ : ∃ x, x = v_ := ⟨v_, rfl⟩
 obtain ⟨bl, rfl⟩ : ∃ x, x = v_ := ⟨v_, rfl⟩
 obtain ⟨v, rfl⟩ : ∃ x, x = v_ := ⟨v_, rfl⟩
 obtain ⟨bg, rfl⟩ : ∃ x, x = v_ := ⟨v_, rfl⟩
 obtain ⟨br, rfl⟩ : ∃ x, x = v_ := ⟨v_, rfl⟩
 obtain ⟨hst, hlo⟩ := hlt v
 obtain ⟨⟨stem, loop⟩, hp⟩ := v
 have hsl := hp.2.1
 have hll := hp.2.2
 dsimp only at hst hlo hsl hll ⊢
 have q1 := stS_len e.spots stem
 have q2 := stS_len e.spots loop
 refine jrow (E := 3) (sz := 1) intC ?_
 refine J_loopV (X := Nat × Sl) (fun y => [(2, .val (.pointer (some ⟨br, 0, none⟩))), (4, .val (.pointer (some ⟨bg, 0, none⟩))), (6, .val (.pointer (some ⟨bl, 0, none⟩))), (7, .val (.pointer (some ⟨bv, 0, none⟩))), (30, .d (natsD stem)), (31, .int stem.length), (32, .int y.1)]) (fun y => [rowE y.2.v 3 1 intC ((stS e.spots stem).take y.1), .cells bv 45 [.bool false, .val y.2.v, .val Sl.nil.v], .cells bl 43 [.d (natsD stem), .d (natsD loop)], .cells bg 35 [.d (opsD e.spots), .int (gnF t e).init, .d (natLD (gnF t e).next), .d (natsD (gnF t e).sets), .int (gnF t e).many], .cells br 45 [.bool false, .val (.slice none 0 0), .val (.slice none 0 0)]]) (fun y => y.1 ≤ stem.length) (fun y => stem.length - y.1) (0, Sl.nil) (Nat.zero_le _) (VS.take (by exact takedD) ?_) ?_
 · exact leD
 rintro ⟨j, q⟩ hj
 dsimp only at hj ⊢
 by_cases hjl : j < stem.length
 · have hjs := hst stem[j] (List.getElem_mem hjl)
   have et := stS_take e.spots stem j hjl hjs
   have hlen : ((stS e.spots stem).take j).length = j := by rw [List.length_take]; omega
   repeat' (first
    | exact True.intro | refine stp2 ?_ | refine two ?_ ?_ | refine allc fun c_ => ?_
    | (refine imp fun hc => ?_) <;> try exact cx hc
    | refine all fun v_ => ?_)
   refine ⟨?_⟩
   refine J_region_HB [rowE q.v 3 1 intC ((stS e.spots stem).take j)] mixed rfl (by (repeat ((with_reducible apply Hd.cons); (focus rfl))); exact Hd.nil) (by (repeat (with_reducible apply len_cons)); exact len_nil) (by decide +kernel) (by exact takeD) ?_
   repeat' (first
    | exact True.intro | refine stpH ?_ | refine two ?_ ?_ | refine allc fun c_ => ?_
    | (refine imp fun hc => ?_) <;> try exact cx1 hc
    | refine all fun v_ => ?_)
   refine ⟨(j + 1, v_), by dsimp only; omega, by dsimp only; omega, VS.take (by dsimp only; rw [et]; exact takedD) ?_⟩
   exact leD
 obtain rfl : j = stem.length := by omega
 have eall : (stS e.spots stem).take stem.length = stS e.spots stem := List.take_of_length_le (by omega)
 rw [eall]
 repeat' (first
  | exact True.intro | refine stpH ?_ | refine two ?_ ?_ | refine allc fun c_ => ?_
  | (refine imp fun hc => ?_) <;> try exact cx1 hc
  | refine all fun v_ => ?_)
 refine jrow (E := 3) (sz := 1) intC ?_
 refine J_loopV (X := Nat × Sl) (fun y => [(2, .val (.pointer (some ⟨br, 0, none⟩))), (4, .val (.pointer (some ⟨bg, 0, none⟩))), (6, .val (.pointer (some ⟨bl, 0, none⟩))), (7, .val (.pointer (some ⟨bv, 0, none⟩))), (51, .d (natsD loop)), (52, .int loop.length), (53, .int y.1)]) (fun y => [rowE y.2.v 3 1 intC ((stS e.spots loop).take y.1), rowE q.v 3 1 intC (stS e.spots stem), .cells bv 45 [.bool false, .val q.v, .val y.2.v], .cells bl 43 [.d (natsD stem), .d (natsD loop)], .cells bg 35 [.d (opsD e.spots), .int (gnF t e).init, .d (natLD (gnF t e).next), .d (natsD (gnF t e).sets), .int (gnF t e).many], .cells br 45 [.bool false, .val (.slice none 0 0), .val (.slice none 0 0)]]) (fun y => y.1 ≤ loop.length) (fun y => loop.length - y.1) (0, Sl.nil) (Nat.zero_le _) (VS.take (by exact takedD) ?_) ?_
 · exact leD
 obtain ⟨qs, rfl⟩ : ∃ x, x = q := ⟨q, rfl⟩
 rintro ⟨j, q⟩ hj
 dsimp only at hj ⊢
 by_cases hjl : j < loop.length
 · have hjs := hlo loop[j] (List.getElem_mem hjl)
   have et := stS_take e.spots loop j hjl hjs
   have hlen : ((stS e.spots loop).take j).length = j := by rw [List.length_take]; omega
   repeat' (first
    | exact True.intro | refine stp2 ?_ | refine two ?_ ?_ | refine allc fun c_ => ?_
    | (refine imp fun hc => ?_) <;> try exact cx hc
    | refine all fun v_ => ?_)
   refine ⟨?_⟩
   refine J_region_HB [rowE q.v 3 1 intC ((stS e.spots loop).take j)] mixed rfl (by (repeat ((with_reducible apply Hd.cons); (focus rfl))); exact Hd.nil) (by (repeat (with_reducible apply len_cons)); exact len_nil) (by decide +kernel) (by exact takeD) ?_
   repeat' (first
    | exact True.intro | refine stpH ?_ | refine two ?_ ?_ | refine allc fun c_ => ?_
    | (refine imp fun hc => ?_) <;> try exact cx1 hc
    | refine all fun v_ => ?_)
   refine ⟨(j + 1, v_), by dsimp only; omega, by dsimp only; omega, VS.take (by dsimp only; rw [et]; exact takedD) ?_⟩
   exact leD
 obtain rfl : j = loop.length := by omega
 have eall : (stS e.spots loop).take loop.length = stS e.spots loop := List.take_of_length_le (by omega)
 rw [eall]
 repeat' (first
  | exact True.intro | refine stpH ?_ | refine two ?_ ?_ | refine allc fun c_ => ?_
  | (refine imp fun hc => ?_) <;> try exact cx1 hc
  | refine all fun v_ => ?_)
 refine retr (VS.trans (VS.take (hc := [rowE qs.v 3 1 intC (stS e.spots stem), rowE q.v 3 1 intC (stS e.spots loop), .cells br 45 [.bool false, .val qs.v, .val q.v]]) (by exact takedD) (Env.le_refl _))
  (VS.trans (vdat (h1 := []) (h' := [rowE q.v 3 1 intC (stS e.spots loop), .cells br 45 [.bool false, .d (intsD (stS e.spots stem)), .val q.v]]) 8 rfl rfl (fun _ => rfl) (by omega) (CvE.refl _ _ _) ?_)
  (vdat (h1 := []) (h' := [.cells br 45 [.bool false, .d (intsD (stS e.spots stem)), .d (intsD (stS e.spots loop))]]) 8 rfl rfl (fun _ => rfl) (by omega) (CvE.refl _ _ _) ?_))) (xs := [vdA false (stS e.spots stem) (stS e.spots loop), .int 0]) ⟨rv_agg rfl (by (with_reducible exact ElC.h)) rfl (by exact memD) rfl, rv_tmp rfl, trivial⟩ rfl (h' := []) (List.nil_sublist _) ⟨⟨(stem, loop), hp⟩, rfl, rfl⟩
 · exact .keep (.cells (.cons (.same _) (.cons .here (.cons (.same _) .nil))) (.refl _))
 · exact .cells (.cons (.same _) (.cons (.same _) (.cons .here .nil))) (.refl _)
end Go.Proofs.YtniklgkoiaeipaaGreatDoor
namespace Go.Sp
open Go Go.Av

noncomputable def hldF (t : Tk) : Bool := @decide (holdsP t) (Classical.propDecidable _)
theorem hldF_iff {t : Tk} : hldF t = true ↔ holdsP t := by
 unfold hldF
 exact @decide_eq_true_iff _ (Classical.propDecidable _)
theorem fair_holds {t : Tk} {e : Exp} (h : exploreF t = (some e, 0)) : (fairOf (exG t)).2 ≠ 0 ↔ holdsP t := by
 obtain ⟨h1, g⟩ := exG_some h
 rw [h1, g.gr]
 exact g.holds
theorem FoG.of (raw : List Fo) {t : Nat} (h : t ≤ 6) : FoG (formG raw t) := by
 have := formG_wf raw t
 exact ⟨this.1, by omega, by omega⟩
theorem FoG.yes : FoG [⟨11, 0⟩] := ⟨.leaf rfl rfl, by simp, by decide⟩
theorem Wf.one' {f : List Fo} (k : Int) (h : 8 ≤ k ∧ k ≠ 13) (hp : partsOf k = (1, 0)) (w : Wf (FoK 3) f) : Wf (FoK 3) (⟨k, 0⟩ :: f) := .one (o := ⟨k, 0⟩) (fo_k h) hp w
theorem FoG.always (n : Int) : FoG [⟨18, 0⟩, ⟨13, pk n 3⟩] := by
 have h := pk_bound n (many := 3) (by decide)
 refine ⟨Wf.one' 18 (by decide) rfl (.leaf (o := ⟨13, pk n 3⟩) ?_ rfl), by simp, by simp only [nAh_cons, nAh_nil]; split <;> split <;> omega⟩
 unfold FoK fitsZ
 dsimp only
 rw [if_neg (by omega), if_neg (by omega)]
section
variable (d : De) {f g : List Fo}
noncomputable abbrev sgG (d : De) (π : Nat → Int) : Nat → Nat → Bool := sigF (tskG d []) π
theorem holds_G : holdsP (tskG d f) ↔ ∀ π, runP (modG d) π → iAt f (sgG d π) 0 0 = true := Iff.rfl
noncomputable def saysG (d : De) (c : Int) (v : Nat) : Bool := ((lettF (tskG d []) c)[v]?).getD false
theorem top_always (n : Int) : holdsP (tskG d [⟨18, 0⟩, ⟨13, n⟩]) ↔ ∀ c : Nat, fromP (nxM (modG d)) [(firstF (modG d)).toNat] c → saysG d c n.toNat = true := by
 have hm := modelF_G d
 have key : ∀ π, iAt [⟨18, 0⟩, ⟨13, n⟩] (sgG d π) 0 0 = true ↔ ∀ j, saysG d (π j) n.toNat = true := fun π => by
  have hw : Wf (fun o : Fo => 8 ≤ o.kind) [⟨13, n⟩] := .leaf (o := ⟨13, n⟩) (show (8 : Int) ≤ 13 by decide) rfl
  rw [hw.sem_glob (fun _ h => h), sem_prop]
  exact ⟨fun h j => h j (Nat.zero_le _), fun h j _ => h j⟩
 constructor
 · intro h c hc
   obtain ⟨π, hp, j, hj⟩ := run_through hm hc
   have := (key π).1 ((holds_G d).1 h π hp) j
   rwa [hj] at this
 · intro h
   refine (holds_G d).2 fun π hp => (key π).2 fun j => ?_
   obtain ⟨c, h1, h2⟩ := run_reached hm hp j
   rw [h1]; exact h c h2
theorem one_word (f : List Fo) (x : List Bool) : wAt f [x] 0 0 0 = iAt f (fun _ v => (x[v]?).getD false) 0 0 := by
 have h := wAt_inf f [x] 0 (by simp) f.length 0 (by omega) 0
 rw [show momI 0 [x].length 0 = 0 from rfl] at h
 rw [← h]
 congr 1
 funext i v
 have hm := momI_lt (s := 0) (N := [x].length) (by simp) i
 have : momI 0 [x].length i = 0 := by simpa using hm
 rw [this]
 rfl
theorem nextF_lone {c : Int} (hd : d.rules = []) (h0 : 0 ≤ c) (h1 : c < prodV (modG d).vars) : (nextF (modG d) c).1 = [c] := by
 have hm := modelF_G d
 have hv : valsF (modG d) c = (valsT (modG d).vars c, 0) := by unfold valsF; rw [if_neg (fun k => k hm), if_pos ⟨h0, h1⟩]
 have hr : (modG d).rules = [] := by unfold modG; rw [hd]; rfl
 rw [nextF_ok (by rw [hv])]
 dsimp only
 rw [hr]
 exact if_pos rfl
theorem run_lone (hd : d.rules = []) {π : Nat → Int} (hp : runP (modG d) π) : ∀ i, π i = firstF (modG d)
 | 0 => hp.1
 | i + 1 => by
   have hf := first_ok (modelF_G d)
   have := hp.2 i
   rw [run_lone hd hp i, nextF_lone d hd hf.2.1 hf.2.2] at this
   exact List.mem_singleton.1 this
theorem top_lone (hd : d.rules = []) : holdsP (tskG d f) ↔ wAt f [lettF (tskG d []) (firstF (modG d))] 0 0 0 = true := by
 rw [one_word]
 have key : ∀ π, runP (modG d) π → iAt f (sgG d π) 0 0 = iAt f (fun _ v => ((lettF (tskG d []) (firstF (modG d)))[v]?).getD false) 0 0 := fun π hp => by
  congr 1
  funext i v
  show ((lettF (tskG d []) (π i))[v]?).getD false = _
  rw [run_lone d hd hp i]
 constructor
 · intro h
   obtain ⟨π, hp⟩ := run_some (modelF_G d)
   rw [← key π hp]; exact (holds_G d).1 h π hp
 · intro h
   refine (holds_G d).2 fun π hp => ?_
   rw [key π hp]; exact h
end
end Go.Sp
