/- Own texts. -/
import Derived.Test.YtnlfhnbcdfdhgaaGreatDoorA9
set_option linter.unusedVariables false
set_option linter.unusedSimpArgs false
set_option maxRecDepth 100000
set_option maxHeartbeats 4000000
namespace Go.Proofs.YtnlfhnbcdfdhgaaGreatDoor
open Go Go.Av Go.Sp
theorem CX : Cal Tryz.prog 136 := Cal.of Tryz.func136 (by kernel_rfl) (by kernel_rfl)
theorem Fk : Cal Tryz.prog 172 := Cal.of Tryz.func172 (by kernel_rfl) (by kernel_rfl)
theorem Es {x y : Int} (hx : AU x) (hy : AU y) : Ao (x * y) := by
 have h : (x * y).natAbs ≤ 1000000 * 1000000 := by
  rw [Int.natAbs_mul]
  unfold AU at hx hy
  exact Nat.mul_le_mul jB jB
 generalize x * y = z at h
 unfold Ao; omega
theorem pop0 (G : List (Nat × List D)) (bm : Nat) (env xs : List Int) (n : Nat) (q : Sl) (hl : xs.length = n + 1) (hS : n ≤ 1000) : AC Tryz.prog G 136 [.val (.pointer (some ⟨bm, 0, none⟩))] [.cells bm 193 [.val q.v, .d (AJ env)], AL q.v 3 1 AS xs] fun r h => ∃ v : Sl, r = .ret (.int (xs[n]'jB)) ∧ h = [.cells bm 193 [.val v.v, .d (AJ env)], AL v.v 3 1 AS (xs.take n)] := by
 refine AK (ts := [2]) Tryz.f136.ntmps Tryz.func136 rfl rfl rfl (by simp [Tryz.ntmps136]) fun W I => ?_
 have hn : ((xs.length : Int) - 1).toNat = n := by omega
 repeat' (first | exact jA | refine AF ?_ | refine two ?_ ?_ | refine AB fun c_ => ?_ | refine imp fun hc => ?_; try exact cx1 hc | refine all fun v_ => ?_)
 refine AI (VS.cut (q := q) (f := AS) (xs := xs) (E := 3) (sz := 1) (n := ((xs.length : Int) - 1).toNat) (h' := [.cells bm 193 [.val (q.cut ((xs.length : Int) - 1).toNat).v, .d (AJ env)], AL (q.cut ((xs.length : Int) - 1).toNat).v 3 1 AS (xs.take ((xs.length : Int) - 1).toNat)]) Cm (fun _ => rfl) jB) ?_
 ((with_reducible apply rq1); rfl; rfl)
 refine ⟨q.cut ((xs.length : Int) - 1).toNat, ?_, by rw [hn]⟩
 simp only [hn]
 rfl
theorem pop (G : List (Nat × List D)) (bm : Nat) (env S : List Int) (a : Int) (q : Sl) (hS : S.length ≤ 1000) : AC Tryz.prog G 136 [.val (.pointer (some ⟨bm, 0, none⟩))] [.cells bm 193 [.val q.v, .d (AJ env)], AL q.v 3 1 AS (S ++ [a])] fun r h => ∃ v : Sl, r = .ret (.int a) ∧ h = [.cells bm 193 [.val v.v, .d (AJ env)], AL v.v 3 1 AS S] := by
 have := pop0 G bm env (S ++ [a]) S.length q (by simp) hS
 simp only [List.getElem_append_right (Nat.le_refl _), Nat.sub_self, List.getElem_cons_zero, List.take_left] at this
 exact this
theorem flag (G : List (Nat × List D)) (b : Bool) : ACr Tryz.prog G 172 [.bool b] (.int (if b = true then 1 else 0)) := by
 refine AK (ts := [2]) Tryz.f172.ntmps Tryz.func172 rfl rfl rfl (by simp [Tryz.ntmps172]) fun W I => ?_
 cases b
 all_goals
  repeat' (first | exact jA | refine AF ?_ | refine two ?_ ?_ | refine AB fun c_ => ?_ | refine imp fun hc => ?_; try exact cx1 hc | refine all fun v_ => ?_)
  refine A0 ?_
  ((with_reducible apply rq1); rfl; rfl)
  exact AA rfl
theorem bd : Cal Tryz.prog 168 := Cal.of Tryz.func168 (by kernel_rfl) (by kernel_rfl)
theorem clo1 (G : List (Nat × List D)) (ba bb : Nat) (x y : Int) (hx : AU x) (hy : AU y) : AC Tryz.prog G 168 [.val (.pointer (some ⟨ba, 0, none⟩)), .val (.pointer (some ⟨bb, 0, none⟩))] [.cells ba 3 [.int x], .cells bb 3 [.int y]] fun r h => ∃ v : Unit, r = .ret (.int (x + y)) ∧ h = [.cells ba 3 [.int x], .cells bb 3 [.int y]] := by
 have hm := Es hx hy
 unfold AU at hx hy
 refine AK (ts := [2]) Tryz.f168.ntmps Tryz.func168 rfl rfl rfl (by simp [Tryz.ntmps168]) fun W I => ?_
 repeat' (first | refine ca Fk (flag _ _) ?_ | exact jA | refine AF ?_ | refine two ?_ ?_ | refine AB fun c_ => ?_ | refine imp fun hc => ?_; try exact cx1 hc | refine all fun v_ => ?_)
 refine A0 ?_
 ((with_reducible apply rq1); rfl; rfl)
 exact ⟨(), rfl, rfl⟩
theorem cu : Cal Tryz.prog 169 := Cal.of Tryz.func169 (by kernel_rfl) (by kernel_rfl)
theorem clo2 (G : List (Nat × List D)) (ba bb : Nat) (x y : Int) (hx : AU x) (hy : AU y) : AC Tryz.prog G 169 [.val (.pointer (some ⟨ba, 0, none⟩)), .val (.pointer (some ⟨bb, 0, none⟩))] [.cells ba 3 [.int x], .cells bb 3 [.int y]] fun r h => ∃ v : Unit, r = .ret (.int (x - y)) ∧ h = [.cells ba 3 [.int x], .cells bb 3 [.int y]] := by
 have hm := Es hx hy
 unfold AU at hx hy
 refine AK (ts := [2]) Tryz.f169.ntmps Tryz.func169 rfl rfl rfl (by simp [Tryz.ntmps169]) fun W I => ?_
 repeat' (first | refine ca Fk (flag _ _) ?_ | exact jA | refine AF ?_ | refine two ?_ ?_ | refine AB fun c_ => ?_ | refine imp fun hc => ?_; try exact cx1 hc | refine all fun v_ => ?_)
 refine A0 ?_
 ((with_reducible apply rq1); rfl; rfl)
 exact ⟨(), rfl, rfl⟩
theorem dD : Cal Tryz.prog 170 := Cal.of Tryz.func170 (by kernel_rfl) (by kernel_rfl)
theorem clo3 (G : List (Nat × List D)) (ba bb : Nat) (x y : Int) (hx : AU x) (hy : AU y) : AC Tryz.prog G 170 [.val (.pointer (some ⟨ba, 0, none⟩)), .val (.pointer (some ⟨bb, 0, none⟩))] [.cells ba 3 [.int x], .cells bb 3 [.int y]] fun r h => ∃ v : Unit, r = .ret (.int (x * y)) ∧ h = [.cells ba 3 [.int x], .cells bb 3 [.int y]] := by
 have hm := Es hx hy
 unfold AU at hx hy
 refine AK (ts := [2]) Tryz.f170.ntmps Tryz.func170 rfl rfl rfl (by simp [Tryz.ntmps170]) fun W I => ?_
 repeat' (first | refine ca Fk (flag _ _) ?_ | exact jA | refine AF ?_ | refine two ?_ ?_ | refine AB fun c_ => ?_ | refine imp fun hc => ?_; try exact cx1 hc | refine all fun v_ => ?_)
 refine A0 ?_
 ((with_reducible apply rq1); rfl; rfl)
 exact ⟨(), rfl, rfl⟩
theorem de : Cal Tryz.prog 171 := Cal.of Tryz.func171 (by kernel_rfl) (by kernel_rfl)
theorem clo4 (G : List (Nat × List D)) (ba bb : Nat) (x y : Int) (hx : AU x) (hy : AU y) : AC Tryz.prog G 171 [.val (.pointer (some ⟨ba, 0, none⟩)), .val (.pointer (some ⟨bb, 0, none⟩))] [.cells ba 3 [.int x], .cells bb 3 [.int y]] fun r h => ∃ v : Unit, r = .ret (.int (if decide (x = y) = true then 1 else 0)) ∧ h = [.cells ba 3 [.int x], .cells bb 3 [.int y]] := by
 have hm := Es hx hy
 unfold AU at hx hy
 refine AK (ts := [2]) Tryz.f171.ntmps Tryz.func171 rfl rfl rfl (by simp [Tryz.ntmps171]) fun W I => ?_
 repeat' (first | refine ca Fk (flag _ _) ?_ | exact jA | refine AF ?_ | refine two ?_ ?_ | refine AB fun c_ => ?_ | refine imp fun hc => ?_; try exact cx1 hc | refine all fun v_ => ?_)
 refine A0 ?_
 ((with_reducible apply rq1); rfl; rfl)
 exact ⟨(), rfl, rfl⟩
theorem cR : Cal Tryz.prog 173 := Cal.of Tryz.func173 (by kernel_rfl) (by kernel_rfl)
theorem clo5 (G : List (Nat × List D)) (ba bb : Nat) (x y : Int) (hx : AU x) (hy : AU y) : AC Tryz.prog G 173 [.val (.pointer (some ⟨ba, 0, none⟩)), .val (.pointer (some ⟨bb, 0, none⟩))] [.cells ba 3 [.int x], .cells bb 3 [.int y]] fun r h => ∃ v : Unit, r = .ret (.int (if decide (x < y) = true then 1 else 0)) ∧ h = [.cells ba 3 [.int x], .cells bb 3 [.int y]] := by
 have hm := Es hx hy
 unfold AU at hx hy
 refine AK (ts := [2]) Tryz.f173.ntmps Tryz.func173 rfl rfl rfl (by simp [Tryz.ntmps173]) fun W I => ?_
 repeat' (first | refine ca Fk (flag _ _) ?_ | exact jA | refine AF ?_ | refine two ?_ ?_ | refine AB fun c_ => ?_ | refine imp fun hc => ?_; try exact cx1 hc | refine all fun v_ => ?_)
 refine A0 ?_
 ((with_reducible apply rq1); rfl; rfl)
 exact ⟨(), rfl, rfl⟩
theorem cq : Cal Tryz.prog 174 := Cal.of Tryz.func174 (by kernel_rfl) (by kernel_rfl)
theorem clo6 (G : List (Nat × List D)) (ba bb : Nat) (x y : Int) (hx : AU x) (hy : AU y) : AC Tryz.prog G 174 [.val (.pointer (some ⟨ba, 0, none⟩)), .val (.pointer (some ⟨bb, 0, none⟩))] [.cells ba 3 [.int x], .cells bb 3 [.int y]] fun r h => ∃ v : Unit, r = .ret (.int (bits .and .i64 x y)) ∧ h = [.cells ba 3 [.int x], .cells bb 3 [.int y]] := by
 have hm := Es hx hy
 unfold AU at hx hy
 refine AK (ts := [2]) Tryz.f174.ntmps Tryz.func174 rfl rfl rfl (by simp [Tryz.ntmps174]) fun W I => ?_
 repeat' (first | refine ca Fk (flag _ _) ?_ | exact jA | refine AF ?_ | refine two ?_ ?_ | refine AB fun c_ => ?_ | refine imp fun hc => ?_; try exact cx1 hc | refine all fun v_ => ?_)
 refine A0 ?_
 ((with_reducible apply rq1); rfl; rfl)
 exact ⟨(), rfl, rfl⟩
theorem dP : Cal Tryz.prog 175 := Cal.of Tryz.func175 (by kernel_rfl) (by kernel_rfl)
theorem clo7 (G : List (Nat × List D)) (ba bb : Nat) (x y : Int) (hx : AU x) (hy : AU y) : AC Tryz.prog G 175 [.val (.pointer (some ⟨ba, 0, none⟩)), .val (.pointer (some ⟨bb, 0, none⟩))] [.cells ba 3 [.int x], .cells bb 3 [.int y]] fun r h => ∃ v : Unit, r = .ret (.int (bits .or .i64 x y)) ∧ h = [.cells ba 3 [.int x], .cells bb 3 [.int y]] := by
 have hm := Es hx hy
 unfold AU at hx hy
 refine AK (ts := [2]) Tryz.f175.ntmps Tryz.func175 rfl rfl rfl (by simp [Tryz.ntmps175]) fun W I => ?_
 repeat' (first | refine ca Fk (flag _ _) ?_ | exact jA | refine AF ?_ | refine two ?_ ?_ | refine AB fun c_ => ?_ | refine imp fun hc => ?_; try exact cx1 hc | refine all fun v_ => ?_)
 refine A0 ?_
 ((with_reducible apply rq1); rfl; rfl)
 exact ⟨(), rfl, rfl⟩
end Go.Proofs.YtnlfhnbcdfdhgaaGreatDoor
