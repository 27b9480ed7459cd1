/- A bundle of this claim's own texts: V12. -/
import Derived.Test.YtcikppldaepodaaZ8
import Derived.Test.YtcikppldaepodaaZ10
import Derived.Test.YtcikppldaepodaaZ11
namespace Go.Proofs.Ytcikppldaepodaa
open Go Go.Av Go.Sp
set_option linter.unusedVariables false
set_option linter.unusedSimpArgs false
set_option maxRecDepth 100000
set_option maxHeartbeats 4000000
theorem cal_Lasso : Cal Try.prog 9 := Cal.of Try.func9 (by kernel_rfl) (by kernel_rfl)
theorem Lasso_no (g : Gr) (h : (fairOf g).2 ≠ 0) : ACr Try.prog GP 9 [grA g] (.tup [.agg [.d (intsD []), .d (intsD [])], .int (fairOf g).2]) := by
  have E := SFair GP g
  generalize fairOf g = p at E h ⊢
  obtain ⟨home, e⟩ := p
  dsimp only at E h ⊢
  refine AC_ofR (rs := [.cell 2 29, .tmp 3]) Try.f9.ntmps Try.func9 rfl rfl rfl (by simp [Try.ntmps9]) fun W I => ?_
  all_goals haveI fA_ : FlagA := ⟨⟩
  all_goals haveI fH_ : FlagH := ⟨⟩
  repeat' (first
    | ((with_reducible apply call0); (focus rfl); (focus exact cal_SFair); (focus exact E); (focus rfl))
    | ((with_reducible apply je_call0); (focus rfl); (focus (decide +kernel)); (focus rfl); (focus exact cal_SFair); (focus exact E); (focus rfl))
    | exact True.intro
    | refine stp ?_
    | refine two ?_ ?_
    | refine allc fun c_ => ?_
    | (refine imp fun hc => ?_) <;> try (first | contradiction | (exfalso; omega) | (exfalso; exact absurd (of_dT hc) (by assumption)) | (exfalso; exact of_dF hc (by assumption)))
    | refine all fun v_ => ?_)
  all_goals clear fA_ fH_
  exact retrl (xs := [.agg [.val (.slice none 0 0), .val (.slice none 0 0)], .int e]) (ys := [.agg [.d (intsD []), .d (intsD [])], .int e]) vid ⟨rv_agg rfl (by (with_reducible exact ElC.h)) rfl (by ((repeat (first | exact List.mem_cons_self | apply List.mem_cons_of_mem)); done)) rfl, rv_tmp rfl, trivial⟩ ⟨AV.le_agg ⟨AV.le_nil 1 8, AV.le_nil 1 8, trivial⟩, AV.le_refl _, trivial⟩ rfl (h' := []) (List.nil_sublist _) (ret_eq rfl)
def LasP (g : Gn) (p : List Nat × List Nat) : Prop := FitP g p.1 p.2 ∧ p.1.length ≤ 20000 ∧ p.2.length ≤ 200000
theorem Lasso_yes (g : Gn) (hok : g.ok) (home : Nat) (hh : home < g.spots.length) (hg : goodP g home) (hf : fairOf g.gr = ((home : Int), 0)) : AC Try.prog GP 9 [gnA g] [] fun r h => ∃ v : {p : List Nat × List Nat // LasP g p}, r = .ret (.tup [.agg [.d (intsD (castL v.1.1)), .d (intsD (castL v.1.2))], .int 0]) ∧ h = [] := by
  have E := SFair GP g.gr
  have E2 := SParts GP g.gr
  rw [hf] at E
  rw [partsOf_ok hok, ← partN_cast, ← natsD_eq] at E2
  rw [gnA_eq] at E E2
  dsimp only at E E2
  have hs := hok.size
  have hi0 := hok.init
  have hm := hok.many
  refine AC_ofR (rs := [.cell 2 29, .tmp 3]) Try.f9.ntmps Try.func9 rfl rfl rfl (by simp [Try.ntmps9]) fun W I => ?_
  all_goals haveI fA_ : FlagA := ⟨⟩
  all_goals haveI fH_ : FlagH := ⟨⟩
  repeat' (first
    | ((with_reducible apply call0); (focus rfl); (focus exact cal_SFair); (focus exact E); (focus rfl))
    | ((with_reducible apply je_call0); (focus rfl); (focus (decide +kernel)); (focus rfl); (focus exact cal_SFair); (focus exact E); (focus rfl))
    | ((with_reducible apply call0); (focus rfl); (focus exact cal_SParts); (focus exact E2); (focus rfl))
    | ((with_reducible apply je_call0); (focus rfl); (focus (decide +kernel)); (focus rfl); (focus exact cal_SParts); (focus exact E2); (focus rfl))
    | exact True.intro
    | refine stp ?_
    | refine two ?_ ?_
    | refine allc fun c_ => ?_
    | (refine imp fun hc => ?_) <;> try (first | contradiction | (exfalso; omega) | (exfalso; exact absurd (of_dT hc) (by assumption)) | (exfalso; exact of_dF hc (by assumption)))
    | refine all fun v_ => ?_)
  all_goals clear fA_ fH_
  obtain ⟨bx, rfl⟩ : ∃ x, x = v_ := ⟨v_, rfl⟩
  obtain ⟨bp, rfl⟩ : ∃ x, x = v_ := ⟨v_, rfl⟩
  obtain ⟨bh, rfl⟩ : ∃ x, x = v_ := ⟨v_, rfl⟩
  obtain ⟨b2, rfl⟩ : ∃ x, x = v_ := ⟨v_, rfl⟩
  obtain ⟨bg, rfl⟩ : ∃ x, x = v_ := ⟨v_, rfl⟩
  change J _ _ _ _ [.cells bx 56 [.d (opsD g.spots), .int g.init, .d (natLD g.next), .d (natsD g.sets), .int g.many], .cells bp 24 [.d (natsD (partN g))], .cells bh 3 [.int home], .cells b2 29 [.val (.slice none 0 0), .val (.slice none 0 0)], .cells bg 26 [.d (opsD g.spots), .int g.init, .d (natLD g.next), .d (natsD g.sets), .int g.many]]
  refine jrow (E := 3) (sz := 1) intC ?_
  refine J_loopV (X := Nat × Sl) (fun y => [(1, .val (.pointer (some ⟨bg, 0, none⟩))), (2, .val (.pointer (some ⟨b2, 0, none⟩))), (4, .val (.pointer (some ⟨bh, 0, none⟩))), (6, .val (.pointer (some ⟨bp, 0, none⟩))), (8, .val (.pointer (some ⟨bx, 0, none⟩))), (9, .val y.2.v), (40, .int g.init), (41, .int y.1)]) (fun y => [rowE y.2.v 3 1 intC (castL (List.range y.1)), .cells bh 3 [.int home], .cells bp 24 [.d (natsD (partN g))], .cells bg 26 [.d (opsD g.spots), .int g.init, .d (natLD g.next), .d (natsD g.sets), .int g.many], .cells bx 56 [.d (opsD g.spots), .int g.init, .d (natLD g.next), .d (natsD g.sets), .int g.many], .cells b2 29 [.val (.slice none 0 0), .val (.slice none 0 0)]]) (fun y => y.1 ≤ g.init) (fun y => g.init - y.1) (0, Sl.nil) (Nat.zero_le _) (VS.take (by ((repeat (first | exact Take.nil | ((with_reducible apply Take.cons); (focus ((repeat (first | exact Sel.here | with_reducible apply Sel.there)); done))))); done)) ?_) ?_
  · repeat (first
      | exact Env.le_nil _
      | refine Env.le_cons (AV.le_refl _) ?_
      | refine Env.le_cons (AV.le_int rfl (by first | rfl | omega | (dsimp only; omega))) ?_)
  rintro ⟨i, q⟩ hi
  dsimp only at hi ⊢
  have hil : (castL (List.range i)).length = i := by simp
  by_cases hlt : i < g.init
  · have hsu : castL (List.range (i + 1)) = castL (List.range i) ++ [(i : Int)] := by simp [List.range_succ]
    all_goals haveI fA_ : FlagA := ⟨⟩
    repeat' (first
      | exact True.intro
      | refine stp ?_
      | refine two ?_ ?_
      | (refine imp fun hc => ?_) <;> try (first | contradiction | (exfalso; omega))
      | refine all fun v_ => ?_)
    all_goals clear fA_
    refine ⟨(i + 1, v_), by dsimp only; omega, by dsimp only; omega, VS.take (by dsimp only; rw [hsu]; ((repeat (first | exact Take.nil | ((with_reducible apply Take.cons); (focus ((repeat (first | exact Sel.here | with_reducible apply Sel.there)); done))))); done)) ?_⟩
    repeat (first
      | exact Env.le_nil _
      | refine Env.le_cons (AV.le_refl _) ?_
      | refine Env.le_cons (AV.le_int rfl (by first | rfl | omega | (dsimp only; omega))) ?_)
  obtain rfl : i = g.init := by omega
  have hi1 : 0 < g.init := by obtain ⟨j, hj, _⟩ := hg.1; omega
  have F1 := way g hok (List.range g.init) (fun _ => true) (fun k => decide (k = home)) 29 30 #[] #[.pointer (some ⟨bh, 0, none⟩)] (.cells bh 3 [.int home]) (.cells bp 24 [.d (natsD (partN g))]) (.cells bg 26 [.d (opsD g.spots), .int g.init, .d (natLD g.next), .d (natsD g.sets), .int g.many]) (.cells bx 56 [.d (opsD g.spots), .int g.init, .d (natLD g.next), .d (natsD g.sets), .int g.many]) cal_lasso1 cal_lasso2 (fun k _ => las1 k _ _ _ _) (fun k _ => las2 home k bh _ _ _) (by intro e; have := congrArg List.length e; simp at this; omega) List.nodup_range (fun k hk => by have := List.mem_range.1 hk; omega)
  refine J_vs (vfreeze (t := 9) (eb := 8) rfl rfl (fun x => rfl) (by rw [hil]; omega)) ?_
  all_goals haveI fA_ : FlagA := ⟨⟩
  repeat' (first
    | ((with_reducible apply jp); (focus ((with_reducible apply pu_func1); (focus rfl))); (focus rfl))
    | exact True.intro
    | refine stp ?_
    | refine two ?_ ?_
    | (refine imp fun hc => ?_) <;> try (first | contradiction | (exfalso; omega))
    | refine all fun v_ => ?_)
  all_goals clear fA_
  apply callG
  · rfl
  · exact cal_way
  · exact F1
  · ((repeat (first | with_reducible exact Take.nil | ((with_reducible apply Take.cons); (focus ((repeat (first | with_reducible exact Sel.here | with_reducible apply Sel.there)); done))))); done)
  · rfl
  · (intro v_; (repeat (first | exact App.nil | apply App.cons)); done)
  refine all fun w1 => ?_
  obtain ⟨ws, hw1, hwl1⟩ := w1
  dsimp only
  refine jp (pu_assign rfl) rfl ?_
  refine JL_nil ?_
  refine tq_normal ?_
  refine J_seq (J_cutT (X := Unit) (fun _ => [(1, .val (.pointer (some ⟨bg, 0, none⟩))), (2, .val (.pointer (some ⟨b2, 0, none⟩))), (4, .val (.pointer (some ⟨bh, 0, none⟩))), (6, .val (.pointer (some ⟨bp, 0, none⟩))), (8, .val (.pointer (some ⟨bx, 0, none⟩))), (11, .d (intsD (castL ws))), (12, .val (.func (.func 31) #[] #[.pointer (some ⟨bp, 0, none⟩), .pointer (some ⟨bh, 0, none⟩)]))]) (fun _ => [.cells bh 3 [.int home], .cells bp 24 [.d (natsD (partN g))], .cells bg 26 [.d (opsD g.spots), .int g.init, .d (natLD g.next), .d (natsD g.sets), .int g.many], .cells bx 56 [.d (opsD g.spots), .int g.init, .d (natLD g.next), .d (natsD g.sets), .int g.many], .cells b2 29 [.val (.slice none 0 0), .val (.slice none 0 0)]]) ?_ fun _ => ?_)
  · all_goals haveI fA_ : FlagA := ⟨⟩
    repeat' (first
      | ((with_reducible apply jp); (focus ((with_reducible apply pu_func1); (focus rfl))); (focus rfl))
      | exact True.intro
      | refine stp ?_
      | refine two ?_ ?_
      | (refine imp fun hc => ?_) <;> try (first | contradiction | (exfalso; omega))
      | refine all fun v_ => ?_)
    all_goals clear fA_
    exact ⟨(), VS.take (by ((repeat (first | exact Take.nil | ((with_reducible apply Take.cons); (focus ((repeat (first | exact Sel.here | with_reducible apply Sel.there)); done))))); done)) (by repeat (first
                                                                                                                                                                                                     | exact Env.le_nil _
                                                                                                                                                                                                     | refine Env.le_cons (AV.le_refl _) ?_
                                                                                                                                                                                                     | refine Env.le_cons (AV.le_int rfl (by first | rfl | omega | (dsimp only; omega))) ?_))⟩
  refine J_seq (J_region ?_)
  refine jp (r := .int home) (pu_load_cells rfl rfl (by ((repeat (first | exact List.mem_cons_self | apply List.mem_cons_of_mem)); done)) rfl) rfl ?_
  refine jrow_i1 rfl rfl (by (with_reducible exact ElC.h)) rfl ?_
  refine all fun q1 => ?_
  have hsl := hok.sets
  have hsn := ni_get g.sets home (by omega)
  all_goals haveI fA_ : FlagA := ⟨⟩
  repeat' (first
    | exact True.intro
    | refine stp ?_
    | refine two ?_ ?_
    | (refine imp fun hc => ?_) <;> try (first | contradiction | (exfalso; omega))
    | refine all fun v_ => ?_)
  all_goals clear fA_
  refine J_loopV (X := Nat × List Nat × Sl × Nat × Nat) (fun y => [(1, .val (.pointer (some ⟨bg, 0, none⟩))), (2, .val (.pointer (some ⟨b2, 0, none⟩))), (4, .val (.pointer (some ⟨bh, 0, none⟩))), (6, .val (.pointer (some ⟨bp, 0, none⟩))), (8, .val (.pointer (some ⟨bx, 0, none⟩))), (11, .d (intsD (castL ws))), (12, .val (.func (.func 31) #[] #[.pointer (some ⟨bp, 0, none⟩), .pointer (some ⟨bh, 0, none⟩)])), (13, .val y.2.2.1.v), (14, .int y.2.2.2.1), (15, .int y.2.2.2.2), (63, .int g.many), (64, .int y.1)]) (fun y => [rowE y.2.2.1.v 3 1 intC (castL y.2.1), .cells bh 3 [.int home], .cells bp 24 [.d (natsD (partN g))], .cells bg 26 [.d (opsD g.spots), .int g.init, .d (natLD g.next), .d (natsD g.sets), .int g.many], .cells bx 56 [.d (opsD g.spots), .int g.init, .d (natLD g.next), .d (natsD g.sets), .int g.many], .cells b2 29 [.val (.slice none 0 0), .val (.slice none 0 0)]]) (fun y => y.1 ≤ g.many ∧ LasI g home y.1 y.2.1 y.2.2.2.1 ∧ y.2.1.getLast? = some y.2.2.2.2 ∧ y.2.1.length ≤ 1 + 20000 * y.1 ∧ y.2.2.2.1 < 64) (fun y => g.many - y.1) (0, [home], q1, g.sets[home], home) ⟨Nat.zero_le _, hsn ▸ LasI.start hh hg.2, rfl, Nat.le_refl _, ?_⟩ (VS.take (by ((repeat (first | exact Take.nil | ((with_reducible apply Take.cons); (focus ((repeat (first | exact Sel.here | with_reducible apply Sel.there)); done))))); done)) ?_) ?_
  · have h1 := hok.bits home (by omega)
    exact Nat.lt_of_lt_of_le h1 (by have := Nat.pow_le_pow_right (n := 2) (by decide) hm; exact this)
  · repeat (first
      | exact Env.le_nil _
      | refine Env.le_cons (AV.le_refl _) ?_
      | refine Env.le_cons (AV.le_int rfl (by first | rfl | omega | (dsimp only; omega))) ?_)
  rintro ⟨b, l, q2, met, a⟩ ⟨hb, hL, hla, hll, hmet⟩
  dsimp only at hb hL hla hll hmet ⊢
  have hbit : (bits .and .i64 ((met : Int) / 2 ^ (b : Int).toNat) 1 = 1) ↔ met.testBit b = true := by
    have e1 : (b : Int).toNat = b := Int.toNat_natCast b
    have e2 : (met : Int) / 2 ^ b = ((met / 2 ^ b : Nat) : Int) := by simp
    have e3 : met / 2 ^ b ≤ met := Nat.div_le_self _ _
    rw [← bit_div, e1]
    generalize met / 2 ^ b = z at e2 e3
    rw [and1 (by rw [e2]; omega) (by rw [e2]; omega)]
  by_cases hbm : b < g.many
  · have hal := hL.ins a (List.mem_of_getLast? hla)
    obtain ⟨hal1, hal2⟩ := hal
    all_goals haveI fA_ : FlagA := ⟨⟩
    repeat' (first
      | exact True.intro
      | refine stp ?_
      | refine two ?_ ?_
      | (refine imp fun hc => ?_) <;> try (first | contradiction | (exfalso; omega))
      | refine all fun v_ => ?_)
    all_goals clear fA_
    · refine ⟨(b + 1, l, q2, met, a), ⟨by dsimp only; omega, hL.skip (hbit.1 (by assumption)), hla, by dsimp only; omega, hmet⟩, by dsimp only; omega, VS.take (by ((repeat (first | exact Take.nil | ((with_reducible apply Take.cons); (focus ((repeat (first | exact Sel.here | with_reducible apply Sel.there)); done))))); done)) ?_⟩
      repeat (first
        | exact Env.le_nil _
        | refine Env.le_cons (AV.le_refl _) ?_
        | refine Env.le_cons (AV.le_int rfl (by first | rfl | omega | (dsimp only; omega))) ?_)
    obtain ⟨bb, rfl⟩ : ∃ x, x = v_ := ⟨v_, rfl⟩
    have F2 := way g hok [a] (insP g home) (fun k => (ni g.sets k).testBit b) 31 32 #[.pointer (some ⟨bp, 0, none⟩), .pointer (some ⟨bh, 0, none⟩)] #[.pointer (some ⟨bg, 0, none⟩), .pointer (some ⟨bb, 0, none⟩)] (.cells bh 3 [.int home]) (.cells bp 24 [.d (natsD (partN g))]) (.cells bg 26 [.d (opsD g.spots), .int g.init, .d (natLD g.next), .d (natsD g.sets), .int g.many]) (.cells bb 3 [.int b]) cal_lasso3 cal_lasso4 (fun k hk => las3 g home k hk _ _ _ _) (fun k hk => las4 g hok b k hk (by omega) _ _ _ _) (by simp) (List.nodup_cons.2 ⟨List.not_mem_nil, List.nodup_nil⟩) (fun k hk => by rw [List.mem_singleton.1 hk]; exact hal1)
    apply callG
    · rfl
    · exact cal_way
    · exact F2
    · ((repeat (first | with_reducible exact Take.nil | ((with_reducible apply Take.cons); (focus ((repeat (first | with_reducible exact Sel.here | with_reducible apply Sel.there)); done))))); done)
    · rfl
    · (intro v_; (repeat (first | exact App.nil | apply App.cons)); done)
    refine all fun w2 => ?_
    obtain ⟨lw, hw2, hwl2⟩ := w2
    dsimp only
    obtain ⟨v, hv1, hv2⟩ := bit_found hok hg.2 hal1 hal2 hbm
    have hG := hw2.found hv1 hv2
    obtain ⟨t, rfl⟩ := hG.cons
    clear F2 F1
    all_goals haveI fA_ : FlagA := ⟨⟩
    repeat' (first
      | exact True.intro
      | refine stp ?_
      | refine two ?_ ?_
      | (refine imp fun hc => ?_) <;> try (first | contradiction | (exfalso; omega))
      | refine all fun v_ => ?_)
    all_goals clear fA_
    have h64 := (many64 hok).2
    refine J_loopV (X := Nat × Nat) (fun y => [(1, .val (.pointer (some ⟨bg, 0, none⟩))), (2, .val (.pointer (some ⟨b2, 0, none⟩))), (4, .val (.pointer (some ⟨bh, 0, none⟩))), (6, .val (.pointer (some ⟨bp, 0, none⟩))), (8, .val (.pointer (some ⟨bx, 0, none⟩))), (11, .d (intsD (castL ws))), (12, .val (.func (.func 31) #[] #[.pointer (some ⟨bp, 0, none⟩), .pointer (some ⟨bh, 0, none⟩)])), (13, .val q2.v), (14, .int y.2), (17, .d (intsD (castL (a :: t)))), (63, .int g.many), (64, .int b), (79, .d (natsD t)), (80, .int t.length), (81, .int y.1)]) (fun y => [rowE q2.v 3 1 intC (castL l), .cells bh 3 [.int home], .cells bp 24 [.d (natsD (partN g))], .cells bg 26 [.d (opsD g.spots), .int g.init, .d (natLD g.next), .d (natsD g.sets), .int g.many], .cells bx 56 [.d (opsD g.spots), .int g.init, .d (natLD g.next), .d (natsD g.sets), .int g.many], .cells b2 29 [.val (.slice none 0 0), .val (.slice none 0 0)]]) (fun y => y.1 ≤ t.length ∧ y.2 < 64 ∧ ∀ s, y.2.testBit s = true → met.testBit s = true ∨ ∃ x ∈ t.take y.1, (ni g.sets x).testBit s = true) (fun y => t.length - y.1) (0, met) ⟨Nat.zero_le _, hmet, fun s h => .inl h⟩ (VS.take (by ((repeat (first | exact Take.nil | ((with_reducible apply Take.cons); (focus ((repeat (first | exact Sel.here | with_reducible apply Sel.there)); done))))); done)) ?_) ?_
    · rw [natsD_eq t, show t.length = (castL t).length by simp]; repeat (first
                                                                   | exact Env.le_nil _
                                                                   | refine Env.le_cons (AV.le_refl _) ?_
                                                                   | refine Env.le_cons (AV.le_int rfl (by first | rfl | omega | (dsimp only; omega))) ?_)
    rintro ⟨j, m2⟩ ⟨hj, hm2, hms⟩
    dsimp only at hj hm2 hms ⊢
    have htl : t.length + 1 ≤ g.spots.length := hwl2
    by_cases hjt : j < t.length
    · have htn := hG.lt t[j] (List.mem_cons_of_mem _ (List.getElem_mem hjt))
      have hgs := ni_get g.sets t[j] (by omega)
      have hsl2 := sets_lt hok t[j]
      have hor : bits .or .i64 (m2 : Int) ((ni g.sets t[j] : Nat) : Int) = ((m2 ||| ni g.sets t[j] : Nat) : Int) := (bits_nat .i64 63 (by decide) wraps_i64 m2 (ni g.sets t[j]) (by omega) (by omega)).2
      rw [hgs] at hor
      all_goals haveI fA_ : FlagA := ⟨⟩
      repeat' (first
        | exact True.intro
        | refine stp ?_
        | refine two ?_ ?_
        | (refine imp fun hc => ?_) <;> try (first | contradiction | (exfalso; omega))
        | refine all fun v_ => ?_)
      all_goals clear fA_
      refine ⟨(j + 1, m2 ||| ni g.sets t[j]), ⟨by dsimp only; omega, Nat.or_lt_two_pow (n := 6) hm2 (by omega), fun s h => ?_⟩, by dsimp only; omega, VS.take (by ((repeat (first | exact Take.nil | ((with_reducible apply Take.cons); (focus ((repeat (first | exact Sel.here | with_reducible apply Sel.there)); done))))); done)) ?_⟩
      · dsimp only at h ⊢
        rw [Nat.testBit_or, Bool.or_eq_true] at h
        rw [List.take_succ_eq_append_getElem hjt]
        rcases h with h | h
        · rcases hms s h with h | ⟨x, hx, e⟩
          · exact .inl h
          · exact .inr ⟨x, List.mem_append_left _ hx, e⟩
        · exact .inr ⟨_, List.mem_append_right _ (List.mem_singleton.2 rfl), h⟩
      · dsimp only
        rw [hgs, ← hor]
        repeat (first
          | exact Env.le_nil _
          | refine Env.le_cons (AV.le_refl _) ?_
          | refine Env.le_cons (AV.le_int rfl (by first | rfl | omega | (dsimp only; omega))) ?_)
    obtain rfl : j = t.length := by omega
    rw [List.take_length] at hms
    have hcl : (castL l).length = l.length := by simp
    have hct : (castL t).length = t.length := by simp
    have hlne : 0 < l.length := List.length_pos_iff.2 hL.ne
    all_goals haveI fA_ : FlagA := ⟨⟩
    repeat' (first
      | exact True.intro
      | refine stp ?_
      | refine two ?_ ?_
      | (refine imp fun hc => ?_) <;> try (first | contradiction | (exfalso; omega))
      | refine all fun v_ => ?_)
    all_goals clear fA_
    have ec : castL l ++ List.drop (Int.toNat 1) (castL (a :: t)) = castL (l ++ t) := by simp [castL]
    have ecl : (castL (l ++ t)).length = l.length + t.length := by simp
    rw [ec]
    all_goals haveI fA_ : FlagA := ⟨⟩
    repeat' (first
      | exact True.intro
      | refine stp ?_
      | refine two ?_ ?_
      | (refine imp fun hc => ?_) <;> try (first | contradiction | (exfalso; omega))
      | refine all fun v_ => ?_)
    all_goals clear fA_
    have hne : l ++ t ≠ [] := List.length_pos_iff.1 (by rw [List.length_append]; omega)
    have hz : ∀ h, (castL (l ++ t))[((castL (l ++ t)).length - 1 : Int).toNat]'h = (((l ++ t).getLast hne : Nat) : Int) := fun h => by
      rw [List.getLast_eq_getElem, List.getElem_map]
      congr 2
      rw [ecl, List.length_append]
      omega
    refine ⟨(b + 1, l ++ t, v_, m2, (l ++ t).getLast hne), ⟨by dsimp only; omega, hL.join hla hG hms, List.getLast?_eq_some_getLast hne, by dsimp only; rw [List.length_append]; omega, hm2⟩, by dsimp only; omega, VS.take (by ((repeat (first | exact Take.nil | ((with_reducible apply Take.cons); (focus ((repeat (first | exact Sel.here | with_reducible apply Sel.there)); done))))); done)) ?_⟩
    dsimp only
    rw [← hz (by omega)]
    repeat (first
      | exact Env.le_nil _
      | refine Env.le_cons (AV.le_refl _) ?_
      | refine Env.le_cons (AV.le_int rfl (by first | rfl | omega | (dsimp only; omega))) ?_)
  obtain rfl : b = g.many := by omega
  obtain ⟨hal1, hal2⟩ := hL.ins a (List.mem_of_getLast? hla)
  have hnl := hok.next
  have hnx := g.nx_get a (by omega)
  all_goals haveI fA_ : FlagA := ⟨⟩
  repeat' (first
    | exact True.intro
    | refine stp ?_
    | refine two ?_ ?_
    | (refine imp fun hc => ?_) <;> try (first | contradiction | (exfalso; omega))
    | refine all fun v_ => ?_)
  all_goals clear fA_
  refine J_loopV (X := Nat) (fun j => [(1, .val (.pointer (some ⟨bg, 0, none⟩))), (2, .val (.pointer (some ⟨b2, 0, none⟩))), (4, .val (.pointer (some ⟨bh, 0, none⟩))), (6, .val (.pointer (some ⟨bp, 0, none⟩))), (8, .val (.pointer (some ⟨bx, 0, none⟩))), (11, .d (intsD (castL ws))), (12, .val (.func (.func 31) #[] #[.pointer (some ⟨bp, 0, none⟩), .pointer (some ⟨bh, 0, none⟩)])), (13, .val q2.v), (108, .d (natsD g.next[a])), (109, .int g.next[a].length), (110, .int j)]) (fun _ => [rowE q2.v 3 1 intC (castL l), .cells bh 3 [.int home], .cells bp 24 [.d (natsD (partN g))], .cells bg 26 [.d (opsD g.spots), .int g.init, .d (natLD g.next), .d (natsD g.sets), .int g.many], .cells bx 56 [.d (opsD g.spots), .int g.init, .d (natLD g.next), .d (natsD g.sets), .int g.many], .cells b2 29 [.val (.slice none 0 0), .val (.slice none 0 0)]]) (fun j => j ≤ g.next[a].length ∧ ∀ x ∈ g.next[a].take j, insP g home x = false) (fun j => g.next[a].length - j) 0 ⟨Nat.zero_le _, fun x hx => (by cases hx)⟩ (VS.take (by ((repeat (first | exact Take.nil | ((with_reducible apply Take.cons); (focus ((repeat (first | exact Sel.here | with_reducible apply Sel.there)); done))))); done)) ?_) ?_
  · repeat (first
      | exact Env.le_nil _
      | refine Env.le_cons (AV.le_refl _) ?_
      | refine Env.le_cons (AV.le_int rfl (by first | rfl | omega | (dsimp only; omega))) ?_)
  rintro j ⟨hj, hno⟩
  refine jfact (t := 108) rfl fun hlj => ?_
  by_cases hjl : j < g.next[a].length
  · have hka : g.next[a][j] ∈ g.nx a := by rw [hnx]; exact List.getElem_mem hjl
    have hkn := g.nx_lt hok a _ hka
    have hc3 := las3 g home g.next[a][j] hkn bh bp (.cells bg 26 [.d (opsD g.spots), .int g.init, .d (natLD g.next), .d (natsD g.sets), .int g.many]) (.cells bx 56 [.d (opsD g.spots), .int g.init, .d (natLD g.next), .d (natsD g.sets), .int g.many])
    cases hin : insP g home g.next[a][j] with
    | false =>
      rw [hin] at hc3
      all_goals haveI fA_ : FlagA := ⟨⟩
      repeat' (first
        | ((with_reducible apply callGV); (focus rfl); (focus rfl); (focus exact cal_lasso3); (focus exact hc3); (focus ((repeat (first | with_reducible exact Take.nil | ((with_reducible apply Take.cons); (focus ((repeat (first | with_reducible exact Sel.here | with_reducible apply Sel.there)); done))))); done)); (focus rfl); (focus (intro v_; (repeat (first | exact App.nil | apply App.cons)); done)))
        | exact True.intro
        | refine stp ?_
        | refine two ?_ ?_
        | (refine imp fun hc => ?_) <;> try (first | contradiction | (exfalso; omega))
        | refine all fun v_ => ?_)
      all_goals clear fA_
      refine ⟨j + 1, ⟨hjl, fun x hx => ?_⟩, by omega, VS.take (by ((repeat (first | exact Take.nil | ((with_reducible apply Take.cons); (focus ((repeat (first | exact Sel.here | with_reducible apply Sel.there)); done))))); done)) ?_⟩
      · rw [List.take_succ_eq_append_getElem hjl] at hx
        rcases List.mem_append.1 hx with hx | hx
        · exact hno x hx
        · rw [List.mem_singleton.1 hx]; exact hin
      · repeat (first
          | exact Env.le_nil _
          | refine Env.le_cons (AV.le_refl _) ?_
          | refine Env.le_cons (AV.le_int rfl (by first | rfl | omega | (dsimp only; omega))) ?_)
    | true =>
      rw [hin] at hc3
      all_goals haveI fA_ : FlagA := ⟨⟩
      repeat' (first
        | ((with_reducible apply jp); (focus ((with_reducible apply pu_func1); (focus rfl))); (focus rfl))
        | ((with_reducible apply callGV); (focus rfl); (focus rfl); (focus exact cal_lasso3); (focus exact hc3); (focus ((repeat (first | with_reducible exact Take.nil | ((with_reducible apply Take.cons); (focus ((repeat (first | with_reducible exact Sel.here | with_reducible apply Sel.there)); done))))); done)); (focus rfl); (focus (intro v_; (repeat (first | exact App.nil | apply App.cons)); done)))
        | exact True.intro
        | refine stp ?_
        | refine two ?_ ?_
        | (refine imp fun hc => ?_) <;> try (first | contradiction | (exfalso; omega))
        | refine all fun v_ => ?_)
      all_goals clear fA_
      have hkh : ni (partN g) g.next[a][j] = home := of_decide_eq_true hin
      have F3 := way g hok [g.next[a][j]] (insP g home) (fun k => decide (k = home)) 31 33 #[.pointer (some ⟨bp, 0, none⟩), .pointer (some ⟨bh, 0, none⟩)] #[.pointer (some ⟨bh, 0, none⟩)] (.cells bh 3 [.int home]) (.cells bp 24 [.d (natsD (partN g))]) (.cells bg 26 [.d (opsD g.spots), .int g.init, .d (natLD g.next), .d (natsD g.sets), .int g.many]) (.cells bx 56 [.d (opsD g.spots), .int g.init, .d (natLD g.next), .d (natsD g.sets), .int g.many]) cal_lasso3 cal_lasso5 (fun k hk => las3 g home k hk _ _ _ _) (fun k _ => las5 home k bh _ _ _) (by simp) (List.nodup_cons.2 ⟨List.not_mem_nil, List.nodup_nil⟩) (fun k hk => by rw [List.mem_singleton.1 hk]; exact hkn)
      apply callG
      · rfl
      · exact cal_way
      · exact F3
      · ((repeat (first | with_reducible exact Take.nil | ((with_reducible apply Take.cons); (focus ((repeat (first | with_reducible exact Sel.here | with_reducible apply Sel.there)); done))))); done)
      · rfl
      · (intro v_; (repeat (first | exact App.nil | apply App.cons)); done)
      refine all fun w3 => ?_
      obtain ⟨lw, hw3, hwl3⟩ := w3
      dsimp only
      have hG3 := hw3.found (home_found hok hh hg.2 hkn hkh) (decide_eq_true rfl)
      have hG1 := hw1.found (stem_found hg.1) (decide_eq_true rfl)
      have hlp3 := List.length_pos_iff.2 hG3.ne
      have hlp1 := List.length_pos_iff.2 hG1.ne
      have hc3 : (castL lw).length = lw.length := by simp
      have hc1 : (castL ws).length = ws.length := by simp
      have hcl : (castL l).length = l.length := by simp
      clear F3 F1
      all_goals haveI fA_ : FlagA := ⟨⟩
      repeat' (first
        | exact True.intro
        | refine stp ?_
        | refine two ?_ ?_
        | (refine imp fun hc => ?_) <;> try (first | contradiction | (exfalso; omega))
        | refine all fun v_ => ?_)
      all_goals clear fA_
      have eS : List.take (((castL ws).length : Int) - 1).toNat (castL ws) = castL ws.dropLast := by
        rw [List.dropLast_eq_take, hc1, show ((ws.length : Int) - 1).toNat = ws.length - 1 by omega, ← List.map_take]
      have eX : castL l ++ List.take (((castL lw).length : Int) - 1).toNat (castL lw) = castL (l ++ lw.dropLast) := by
        rw [List.dropLast_eq_take, hc3, show ((lw.length : Int) - 1).toNat = lw.length - 1 by omega, ← List.map_take]
        exact List.map_append.symm
      rw [eS, eX]
      have hlx : (castL (l ++ lw.dropLast)).length ≤ 200000 := by rw [List.length_map, List.length_append, List.length_dropLast]; omega
      refine retr (VS.trans (VS.take (hc := [rowE v_.v 3 1 intC (castL (l ++ lw.dropLast)), .cells b2 29 [.d (intsD (castL ws.dropLast)), .val v_.v]]) (by ((repeat (first | exact Take.nil | ((with_reducible apply Take.cons); (focus ((repeat (first | exact Sel.here | with_reducible apply Sel.there)); done))))); done)) (Env.le_refl _)) (vdat (h1 := []) (h' := [.cells b2 29 [.d (intsD (castL ws.dropLast)), .d (intsD (castL (l ++ lw.dropLast)))]]) 8 rfl rfl (fun _ => rfl) (by omega) (CvE.refl _ _ _) (CvH.cells (.cons (.same _) (.cons .here .nil)) (.refl _)))) (xs := [.agg [.d (intsD (castL ws.dropLast)), .d (intsD (castL (l ++ lw.dropLast)))], .int 0]) ⟨rv_agg rfl (by (with_reducible exact ElC.h)) rfl (by ((repeat (first | exact List.mem_cons_self | apply List.mem_cons_of_mem)); done)) rfl, rv_tmp rfl, trivial⟩ rfl (h' := []) (List.nil_sublist _) ?_
      refine ⟨⟨(ws.dropLast, l ++ lw.dropLast), hL.fits hla hka hin hG1 hG3, ?_, ?_⟩, rfl, rfl⟩
      · rw [List.length_dropLast]; omega
      · rw [List.length_map] at hlx; exact hlx
  · exfalso
    obtain ⟨k, hk, hki⟩ := next_found hok hg.2 hal1 hal2
    rw [hnx] at hk
    have e : j = g.next[a].length := by omega
    have := hno k (by rw [e, List.take_length]; exact hk)
    rw [hki] at this; cases this
end Go.Proofs.Ytcikppldaepodaa
