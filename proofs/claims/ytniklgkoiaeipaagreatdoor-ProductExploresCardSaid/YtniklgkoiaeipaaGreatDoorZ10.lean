/- A bundle of this claim's own texts: Y1. -/
import Derived.Test.YtniklgkoiaeipaaGreatDoorZ2
import Derived.Test.YtniklgkoiaeipaaGreatDoorZ4
import Derived.Test.YtniklgkoiaeipaaGreatDoorZ9
namespace Go.Proofs.YtniklgkoiaeipaaGreatDoor
open Go Go.Av Go.Sp
set_option linter.unusedVariables false
set_option linter.unusedSimpArgs false
set_option maxRecDepth 100000
set_option maxHeartbeats 4000000
theorem cal_pop : Cal Tryz.prog 139 := Cal.of Tryz.func139 (by kernel_rfl) (by kernel_rfl)
theorem cal_flag : Cal Tryz.prog 184 := Cal.of Tryz.func184 (by kernel_rfl) (by kernel_rfl)
theorem mul_lim {x y : Int} (hx : limP x) (hy : limP y) : inI64 (x * y) := by
 have h : (x * y).natAbs ≤ 1000000 * 1000000 := by
  rw [Int.natAbs_mul]
  unfold limP at hx hy
  exact Nat.mul_le_mul (by omega) (by omega)
 generalize x * y = z at h
 unfold inI64; omega
theorem pop0 (G : List (Nat × List D)) (bm : Nat) (env xs : List Int) (n : Nat) (q : Sl) (hl : xs.length = n + 1) (hS : n ≤ 1000) : AC Tryz.prog G 139 [.val (.pointer (some ⟨bm, 0, none⟩))] [.cells bm 189 [.val q.v, .d (intsD env)], rowE q.v 3 1 intC xs] fun r h => ∃ v : Sl, r = .ret (.int (xs[n]'(by omega))) ∧ h = [.cells bm 189 [.val v.v, .d (intsD env)], rowE v.v 3 1 intC (xs.take n)] := by
 refine AC_ofV (ts := [2]) Tryz.f139.ntmps Tryz.func139 rfl rfl rfl (by simp [Tryz.ntmps139]) fun W I => ?_
 have hn : ((xs.length : Int) - 1).toNat = n := by omega
 all_goals haveI fA_ : FlagA := ⟨⟩
 all_goals haveI fH_ : FlagH := ⟨⟩
 repeat' (first
  | exact True.intro
  | refine stp ?_
  | refine two ?_ ?_
  | refine allc fun c_ => ?_
  | (refine imp fun hc => ?_) <;> try exact cx1 hc
  | refine all fun v_ => ?_)
 all_goals clear fA_ fH_
 refine retv (VS.cut (q := q) (f := intC) (xs := xs) (E := 3) (sz := 1) (n := ((xs.length : Int) - 1).toNat) (h' := [.cells bm 189 [.val (q.cut ((xs.length : Int) - 1).toNat).v, .d (intsD env)], rowE (q.cut ((xs.length : Int) - 1).toNat).v 3 1 intC (xs.take ((xs.length : Int) - 1).toNat)]) (by exact updD) (fun _ => rfl) (by omega)) ?_
 ((with_reducible apply rq1); rfl; rfl)
 refine ⟨q.cut ((xs.length : Int) - 1).toNat, ?_, by rw [hn]⟩
 simp only [hn]
 rfl
theorem pop (G : List (Nat × List D)) (bm : Nat) (env S : List Int) (a : Int) (q : Sl) (hS : S.length ≤ 1000) : AC Tryz.prog G 139 [.val (.pointer (some ⟨bm, 0, none⟩))] [.cells bm 189 [.val q.v, .d (intsD env)], rowE q.v 3 1 intC (S ++ [a])] fun r h => ∃ v : Sl, r = .ret (.int a) ∧ h = [.cells bm 189 [.val v.v, .d (intsD env)], rowE v.v 3 1 intC S] := by
 have := pop0 G bm env (S ++ [a]) S.length q (by simp) hS
 simp only [List.getElem_append_right (Nat.le_refl _), Nat.sub_self, List.getElem_cons_zero, List.take_left] at this
 exact this
theorem flag (G : List (Nat × List D)) (b : Bool) : ACr Tryz.prog G 184 [.bool b] (.int (if b = true then 1 else 0)) := by
 refine AC_ofV (ts := [2]) Tryz.f184.ntmps Tryz.func184 rfl rfl rfl (by simp [Tryz.ntmps184]) fun W I => ?_
 cases b
 all_goals
  all_goals haveI fA_ : FlagA := ⟨⟩
  all_goals haveI fH_ : FlagH := ⟨⟩
  repeat' (first
   | exact True.intro
   | refine stp ?_
   | refine two ?_ ?_
   | refine allc fun c_ => ?_
   | (refine imp fun hc => ?_) <;> try exact cx1 hc
   | refine all fun v_ => ?_)
  all_goals clear fA_ fH_
  refine retv0 ?_
  ((with_reducible apply rq1); rfl; rfl)
  exact ret_eq rfl
theorem cal_do1 : Cal Tryz.prog 180 := Cal.of Tryz.func180 (by kernel_rfl) (by kernel_rfl)
theorem armXY1_1 {p q : Prop} (hp : p) (h : p → q := by
 apply cmp; (focus (first
  | ((with_reducible apply call0); (focus rfl); (focus exact cal_flag); (focus exact flag _ _); (focus rfl))
  | ((with_reducible apply je_call0); (focus rfl); (focus (decide +kernel)); (focus rfl); (focus exact cal_flag); (focus exact flag _ _); (focus rfl))
  ))
 exact fun h => h) : q := h hp
theorem clo1 (G : List (Nat × List D)) (ba bb : Nat) (x y : Int) (hx : limP x) (hy : limP y) : AC Tryz.prog G 180 [.val (.pointer (some ⟨ba, 0, none⟩)), .val (.pointer (some ⟨bb, 0, none⟩))] [.cells ba 3 [.int x], .cells bb 3 [.int y]] fun r h => ∃ v : Unit, r = .ret (.int (x + y)) ∧ h = [.cells ba 3 [.int x], .cells bb 3 [.int y]] := by
 have hm := mul_lim hx hy
 unfold limP at hx hy
 refine AC_ofV (ts := [2]) Tryz.f180.ntmps Tryz.func180 rfl rfl rfl (by simp [Tryz.ntmps180]) fun W I => ?_
 all_goals haveI fA_ : FlagA := ⟨⟩
 all_goals haveI fH_ : FlagH := ⟨⟩
 repeat' (first
  | refine armXY1_1 ?_
  | exact True.intro
  | refine stp ?_
  | refine two ?_ ?_
  | refine allc fun c_ => ?_
  | (refine imp fun hc => ?_) <;> try exact cx1 hc
  | refine all fun v_ => ?_)
 all_goals clear fA_ fH_
 refine retv0 ?_
 ((with_reducible apply rq1); rfl; rfl)
 exact ⟨(), rfl, rfl⟩
theorem cal_do2 : Cal Tryz.prog 181 := Cal.of Tryz.func181 (by kernel_rfl) (by kernel_rfl)
theorem clo2 (G : List (Nat × List D)) (ba bb : Nat) (x y : Int) (hx : limP x) (hy : limP y) : AC Tryz.prog G 181 [.val (.pointer (some ⟨ba, 0, none⟩)), .val (.pointer (some ⟨bb, 0, none⟩))] [.cells ba 3 [.int x], .cells bb 3 [.int y]] fun r h => ∃ v : Unit, r = .ret (.int (x - y)) ∧ h = [.cells ba 3 [.int x], .cells bb 3 [.int y]] := by
 have hm := mul_lim hx hy
 unfold limP at hx hy
 refine AC_ofV (ts := [2]) Tryz.f181.ntmps Tryz.func181 rfl rfl rfl (by simp [Tryz.ntmps181]) fun W I => ?_
 all_goals haveI fA_ : FlagA := ⟨⟩
 all_goals haveI fH_ : FlagH := ⟨⟩
 repeat' (first
  | refine armXY1_1 ?_
  | exact True.intro
  | refine stp ?_
  | refine two ?_ ?_
  | refine allc fun c_ => ?_
  | (refine imp fun hc => ?_) <;> try exact cx1 hc
  | refine all fun v_ => ?_)
 all_goals clear fA_ fH_
 refine retv0 ?_
 ((with_reducible apply rq1); rfl; rfl)
 exact ⟨(), rfl, rfl⟩
theorem cal_do3 : Cal Tryz.prog 182 := Cal.of Tryz.func182 (by kernel_rfl) (by kernel_rfl)
theorem clo3 (G : List (Nat × List D)) (ba bb : Nat) (x y : Int) (hx : limP x) (hy : limP y) : AC Tryz.prog G 182 [.val (.pointer (some ⟨ba, 0, none⟩)), .val (.pointer (some ⟨bb, 0, none⟩))] [.cells ba 3 [.int x], .cells bb 3 [.int y]] fun r h => ∃ v : Unit, r = .ret (.int (x * y)) ∧ h = [.cells ba 3 [.int x], .cells bb 3 [.int y]] := by
 have hm := mul_lim hx hy
 unfold limP at hx hy
 refine AC_ofV (ts := [2]) Tryz.f182.ntmps Tryz.func182 rfl rfl rfl (by simp [Tryz.ntmps182]) fun W I => ?_
 all_goals haveI fA_ : FlagA := ⟨⟩
 all_goals haveI fH_ : FlagH := ⟨⟩
 repeat' (first
  | refine armXY1_1 ?_
  | exact True.intro
  | refine stp ?_
  | refine two ?_ ?_
  | refine allc fun c_ => ?_
  | (refine imp fun hc => ?_) <;> try exact cx1 hc
  | refine all fun v_ => ?_)
 all_goals clear fA_ fH_
 refine retv0 ?_
 ((with_reducible apply rq1); rfl; rfl)
 exact ⟨(), rfl, rfl⟩
theorem cal_do4 : Cal Tryz.prog 183 := Cal.of Tryz.func183 (by kernel_rfl) (by kernel_rfl)
theorem clo4 (G : List (Nat × List D)) (ba bb : Nat) (x y : Int) (hx : limP x) (hy : limP y) : AC Tryz.prog G 183 [.val (.pointer (some ⟨ba, 0, none⟩)), .val (.pointer (some ⟨bb, 0, none⟩))] [.cells ba 3 [.int x], .cells bb 3 [.int y]] fun r h => ∃ v : Unit, r = .ret (.int (if decide (x = y) = true then 1 else 0)) ∧ h = [.cells ba 3 [.int x], .cells bb 3 [.int y]] := by
 have hm := mul_lim hx hy
 unfold limP at hx hy
 refine AC_ofV (ts := [2]) Tryz.f183.ntmps Tryz.func183 rfl rfl rfl (by simp [Tryz.ntmps183]) fun W I => ?_
 all_goals haveI fA_ : FlagA := ⟨⟩
 all_goals haveI fH_ : FlagH := ⟨⟩
 repeat' (first
  | refine armXY1_1 ?_
  | exact True.intro
  | refine stp ?_
  | refine two ?_ ?_
  | refine allc fun c_ => ?_
  | (refine imp fun hc => ?_) <;> try exact cx1 hc
  | refine all fun v_ => ?_)
 all_goals clear fA_ fH_
 refine retv0 ?_
 ((with_reducible apply rq1); rfl; rfl)
 exact ⟨(), rfl, rfl⟩
theorem cal_do5 : Cal Tryz.prog 185 := Cal.of Tryz.func185 (by kernel_rfl) (by kernel_rfl)
theorem clo5 (G : List (Nat × List D)) (ba bb : Nat) (x y : Int) (hx : limP x) (hy : limP y) : AC Tryz.prog G 185 [.val (.pointer (some ⟨ba, 0, none⟩)), .val (.pointer (some ⟨bb, 0, none⟩))] [.cells ba 3 [.int x], .cells bb 3 [.int y]] fun r h => ∃ v : Unit, r = .ret (.int (if decide (x < y) = true then 1 else 0)) ∧ h = [.cells ba 3 [.int x], .cells bb 3 [.int y]] := by
 have hm := mul_lim hx hy
 unfold limP at hx hy
 refine AC_ofV (ts := [2]) Tryz.f185.ntmps Tryz.func185 rfl rfl rfl (by simp [Tryz.ntmps185]) fun W I => ?_
 all_goals haveI fA_ : FlagA := ⟨⟩
 all_goals haveI fH_ : FlagH := ⟨⟩
 repeat' (first
  | refine armXY1_1 ?_
  | exact True.intro
  | refine stp ?_
  | refine two ?_ ?_
  | refine allc fun c_ => ?_
  | (refine imp fun hc => ?_) <;> try exact cx1 hc
  | refine all fun v_ => ?_)
 all_goals clear fA_ fH_
 refine retv0 ?_
 ((with_reducible apply rq1); rfl; rfl)
 exact ⟨(), rfl, rfl⟩
theorem cal_do6 : Cal Tryz.prog 186 := Cal.of Tryz.func186 (by kernel_rfl) (by kernel_rfl)
theorem clo6 (G : List (Nat × List D)) (ba bb : Nat) (x y : Int) (hx : limP x) (hy : limP y) : AC Tryz.prog G 186 [.val (.pointer (some ⟨ba, 0, none⟩)), .val (.pointer (some ⟨bb, 0, none⟩))] [.cells ba 3 [.int x], .cells bb 3 [.int y]] fun r h => ∃ v : Unit, r = .ret (.int (bits .and .i64 x y)) ∧ h = [.cells ba 3 [.int x], .cells bb 3 [.int y]] := by
 have hm := mul_lim hx hy
 unfold limP at hx hy
 refine AC_ofV (ts := [2]) Tryz.f186.ntmps Tryz.func186 rfl rfl rfl (by simp [Tryz.ntmps186]) fun W I => ?_
 all_goals haveI fA_ : FlagA := ⟨⟩
 all_goals haveI fH_ : FlagH := ⟨⟩
 repeat' (first
  | refine armXY1_1 ?_
  | exact True.intro
  | refine stp ?_
  | refine two ?_ ?_
  | refine allc fun c_ => ?_
  | (refine imp fun hc => ?_) <;> try exact cx1 hc
  | refine all fun v_ => ?_)
 all_goals clear fA_ fH_
 refine retv0 ?_
 ((with_reducible apply rq1); rfl; rfl)
 exact ⟨(), rfl, rfl⟩
theorem cal_do7 : Cal Tryz.prog 187 := Cal.of Tryz.func187 (by kernel_rfl) (by kernel_rfl)
theorem clo7 (G : List (Nat × List D)) (ba bb : Nat) (x y : Int) (hx : limP x) (hy : limP y) : AC Tryz.prog G 187 [.val (.pointer (some ⟨ba, 0, none⟩)), .val (.pointer (some ⟨bb, 0, none⟩))] [.cells ba 3 [.int x], .cells bb 3 [.int y]] fun r h => ∃ v : Unit, r = .ret (.int (bits .or .i64 x y)) ∧ h = [.cells ba 3 [.int x], .cells bb 3 [.int y]] := by
 have hm := mul_lim hx hy
 unfold limP at hx hy
 refine AC_ofV (ts := [2]) Tryz.f187.ntmps Tryz.func187 rfl rfl rfl (by simp [Tryz.ntmps187]) fun W I => ?_
 all_goals haveI fA_ : FlagA := ⟨⟩
 all_goals haveI fH_ : FlagH := ⟨⟩
 repeat' (first
  | refine armXY1_1 ?_
  | exact True.intro
  | refine stp ?_
  | refine two ?_ ?_
  | refine allc fun c_ => ?_
  | (refine imp fun hc => ?_) <;> try exact cx1 hc
  | refine all fun v_ => ?_)
 all_goals clear fA_ fH_
 refine retv0 ?_
 ((with_reducible apply rq1); rfl; rfl)
 exact ⟨(), rfl, rfl⟩

end Go.Proofs.YtniklgkoiaeipaaGreatDoor
