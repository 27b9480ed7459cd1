/- A bundle of this claim's own texts: N7. -/
import Derived.Test.YtajnpfgelpkijaaGreatDoorA10
import Derived.Test.YtajnpfgelpkijaaGreatDoorA45
set_option linter.unusedVariables false
set_option linter.unusedSimpArgs false
set_option maxRecDepth 100000
set_option maxHeartbeats 4000000
namespace Go.Proofs.YtajnpfgelpkijaaGreatDoor
open Go Go.Av Go.Sp
theorem Ri : Cal Tryz.prog 140 := Cal.of Tryz.func140 (by kernel_rfl) (by kernel_rfl)
theorem Zw : Cal Tryz.prog 102 := Cal.of Tryz.func102 (by kernel_rfl) (by kernel_rfl)
theorem fy (G : List (Nat × List D)) (q : Sl) (xs : List Int) (hb : xs.length < 4611686018427387904) : AC Tryz.prog G 174 [.val q.v] [AF q.v 3 1 Ag xs] fun e h => ∃ _ : Unit, e = .ret (.tup []) ∧ h = [AF q.v 3 1 Ag (DL xs)] :=
 (fe G q xs hb).mono fun _ _ h => ⟨(), h.1, h.2⟩
theorem Z6 (G : List (Nat × List D)) (q : Sl) (xs : List Int) (hb : xs.length ≤ 1000000) : AC Tryz.prog G 175 [.val q.v] [AF q.v 3 1 Ag xs] fun e h => ∃ q' : Sl, e = .ret (.val q'.v) ∧ h = [AF q'.v 3 1 Ag (Lib.compact xs)] :=
 CompactI G q xs (by omega) (SH xs _ (Nat.le_refl _))
theorem next (m : Md) (hm : Ah m = 0) (vs : List Int) (g : InV m vs) : AC Tryz.prog GP 140 [mdA m, .d (AP vs)] [] fun e h => ∃ q : Sl, e = .ret (.val q.v) ∧ h = [AF q.v 3 1 Ag (Lib.compact (DL (Cd m vs m.rules)))] := by
 have h12 := IY hm
 refine AK (ts := [4]) Tryz.f140.ntmps Tryz.func140 rfl rfl rfl (by simp [Tryz.ntmps140]) fun W I => ?_
 repeat' (first
  | exact True.intro | refine AJ ?_ | refine two ?_ ?_ | refine AG fun c_ => ?_
  | (refine imp fun hc => ?_) <;> try exact cx1 hc
  | refine all fun v_ => ?_)
 obtain ⟨bm, rfl⟩ : ∃ x, x = v_ := ⟨v_, rfl⟩
 refine FQ (E := 3) (sz := 1) Ag ?_
 refine AL (X := Nat × Sl) (fun y => [(1, .d (AP vs)), (2, .val (.pointer (some ⟨bm, 0, none⟩))), (5, .val y.2.v), (13, .d (BH m.rules)), (14, .int m.rules.length), (15, .int y.1)]) (fun y => [AF y.2.v 3 1 Ag (Cd m vs (m.rules.take y.1)), .cells bm 25 [.d (Ba m.vars), .d (BH m.rules)]]) (fun y => y.1 ≤ m.rules.length) (fun y => m.rules.length - y.1) (0, Sl.nil) (Nat.zero_le _) (VS.take (by exact AB) ?_) ?_
 · exact leD
 rintro ⟨i, q⟩ hi
 dsimp only at hi ⊢
 have hln := Ta m vs (m.rules.take i)
 rw [List.length_take] at hln
 by_cases hil : i < m.rules.length
 · have hr := List.getElem_mem hil
   have hA := after m hm _ hr vs g
   cases ho : Co m m.rules[i] vs with
   | none =>
     have hs := QG hil ho
     rw [ho] at hA
     simp only [Option.getD_none, Option.isSome_none] at hA
     repeat' (first
      | refine ca OF (hA) ?_
      | exact True.intro | refine AJ ?_ | refine two ?_ ?_ | refine AG fun c_ => ?_
      | (refine imp fun hc => ?_) <;> try exact cx1 hc
      | refine all fun v_ => ?_)
     refine ⟨(i + 1, q), by dsimp only; omega, by dsimp only; omega, VS.take (by dsimp only; rw [hs]; exact AB) ?_⟩
     exact leD
   | some out =>
     have hs := RA hil ho
     rw [ho] at hA
     simp only [Option.getD_some, Option.isSome_some] at hA
     repeat' (first
      | refine ca OF (hA) ?_
      | refine ca SX (Code _ _) ?_
      | exact True.intro | refine AJ ?_ | refine two ?_ ?_ | refine AG fun c_ => ?_
      | (refine imp fun hc => ?_) <;> try exact cx1 hc
      | refine all fun v_ => ?_)
     refine ⟨(i + 1, v_), by dsimp only; omega, by dsimp only; omega, VS.take (by dsimp only; rw [hs]; exact AB) ?_⟩
     exact leD
 obtain rfl : i = m.rules.length := by omega
 rw [List.take_length] at hln ⊢
 generalize Cd m vs m.rules = cs at hln ⊢
 have hsl := Ph cs
 repeat' (first
  | ((with_reducible apply Au); (focus rfl); (focus exact VH); (focus exact fy GP q cs (by omega)); (focus exact AS); (focus rfl); (focus exact A8))
  | ((with_reducible apply Au); (focus rfl); (focus exact PF); (focus exact Z6 GP q (DL cs) (by omega)); (focus exact AS); (focus rfl); (focus exact A8))
  | exact True.intro | refine AJ ?_ | refine two ?_ ?_ | refine AG fun c_ => ?_
  | (refine imp fun hc => ?_) <;> try exact cx1 hc
  | refine all fun v_ => ?_)
 refine AO (VS.drop (h' := [AF v_.v 3 1 Ag (Lib.compact (DL cs))]) (by exact H6)) ?_
 ((with_reducible apply rq1); rfl; rfl)
 exact ⟨v_, rfl, rfl⟩
theorem Next (m : Md) (code : Int) : ACr Tryz.prog GP 102 [mdA m, .int code] (.tup [.d (AP (EF m code).1), .int (EF m code).2]) := by
 have hV := YI m code
 refine AK (ts := [4, 5]) Tryz.f102.ntmps Tryz.func102 rfl rfl rfl (by simp [Tryz.ntmps102]) fun W I => ?_
 by_cases h1 : (CW m code).2 ≠ 0
 · rw [KJ h1]
   repeat' (first
    | refine ca Dn (hV) ?_
    | exact True.intro | refine AJ ?_ | refine two ?_ ?_ | refine AG fun c_ => ?_
    | (refine imp fun hc => ?_) <;> try exact cx1 hc
    | refine all fun v_ => ?_)
   refine AO (VS.trans (VS.drop (List.nil_sublist _)) (Ft (t := 4) 1 8 rfl)) ?_
   ((with_reducible apply rq2); rfl; rfl; rfl)
   exact AD rfl
 rw [Ld (Decidable.not_not.1 h1)]
 obtain ⟨hm, c0, c1, hF⟩ := Mp (Decidable.not_not.1 h1)
 have g := InV.vals hm c0 c1
 rw [hF] at hV
 dsimp only at hV
 clear h1
 have hN := next m hm _ g
 have hr := Pb hm g
 obtain ⟨n, hn, n1, n2⟩ := GD hm
 rw [hn] at hr ⊢
 rw [PN n _ hr] at hN
 generalize Cd m (CO m.vars code) m.rules = cs at hN hr ⊢
 have hul := RT n cs
 rw [Int.toNat_natCast]
 by_cases hcs : cs = []
 · subst hcs
   rw [YL] at hN hul
   rw [if_pos rfl]
   repeat' (first
    | refine ca Dn (hV) ?_
    | refine cae Ri (hN) ?_
    | exact True.intro | refine AJ ?_ | refine two ?_ ?_ | refine AG fun c_ => ?_
    | (refine imp fun hc => ?_) <;> try exact cx1 hc
    | refine all fun v_ => ?_)
   refine AO (VS.trans (Ci (t := 4) (eb := 8) rfl rfl (fun x => rfl) (by simp)) (VS.drop (List.nil_sublist _))) ?_
   ((with_reducible apply rq2); rfl; rfl; rfl)
   exact AD rfl
 · rw [if_neg hcs]
   have hu0 : 0 < (JF n cs).length := by
    obtain ⟨x, hx⟩ := List.exists_mem_of_ne_nil _ hcs
    exact List.length_pos_of_mem ((Qb hr x).2 hx)
   repeat' (first
    | refine ca Dn (hV) ?_
    | refine cae Ri (hN) ?_
    | exact True.intro | refine AJ ?_ | refine two ?_ ?_ | refine AG fun c_ => ?_
    | (refine imp fun hc => ?_) <;> try exact cx1 hc
    | refine all fun v_ => ?_)
   refine AO (VS.trans (Ci (t := 4) (eb := 8) rfl rfl (fun x => rfl) (by omega)) (VS.drop (List.nil_sublist _))) ?_
   ((with_reducible apply rq2); rfl; rfl; rfl)
   exact AD rfl
end Go.Proofs.YtajnpfgelpkijaaGreatDoor
