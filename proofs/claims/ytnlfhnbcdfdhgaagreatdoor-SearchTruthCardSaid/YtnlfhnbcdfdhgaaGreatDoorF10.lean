/- A bundle of this claim's own texts: Y1. -/
import Derived.Test.YtnlfhnbcdfdhgaaGreatDoorF2
import Derived.Test.YtnlfhnbcdfdhgaaGreatDoorF3
import Derived.Test.YtnlfhnbcdfdhgaaGreatDoorF4
import Derived.Test.YtnlfhnbcdfdhgaaGreatDoorF9
set_option linter.unusedVariables false
set_option linter.unusedSimpArgs false
set_option maxRecDepth 100000
set_option maxHeartbeats 4000000
namespace Go.Proofs.YtnlfhnbcdfdhgaaGreatDoor
open Go Go.Av Go.Sp
theorem B8 : Cal Tryz.prog 136 := Cal.of Tryz.func136 (by kernel_rfl) (by kernel_rfl)
theorem FH : Cal Tryz.prog 172 := Cal.of Tryz.func172 (by kernel_rfl) (by kernel_rfl)
theorem Gf {x y : Int} (hx : Ak x) (hy : Ak y) : AX (x * y) := by
 have h : (x * y).natAbs ≤ 1000000 * 1000000 := by
  rw [Int.natAbs_mul]
  unfold Ak at hx hy
  exact Nat.mul_le_mul (by omega) (by omega)
 generalize x * y = z at h
 unfold AX; omega
theorem pop0 (G : List (Nat × List D)) (bm : Nat) (env xs : List Int) (n : Nat) (q : Sl) (hl : xs.length = n + 1) (hS : n ≤ 1000) : AC Tryz.prog G 136 [.val (.pointer (some ⟨bm, 0, none⟩))] [.cells bm 193 [.val q.v, .d (AK env)], AH q.v 3 1 Aa xs] fun r h => ∃ v : Sl, r = .ret (.int (xs[n]'(by omega))) ∧ h = [.cells bm 193 [.val v.v, .d (AK env)], AH v.v 3 1 Aa (xs.take n)] := by
 refine AJ (ts := [2]) Tryz.f136.ntmps Tryz.func136 rfl rfl rfl (by simp [Tryz.ntmps136]) fun W I => ?_
 have hn : ((xs.length : Int) - 1).toNat = n := by omega
 repeat' (first
  | exact True.intro | refine AG ?_ | refine two ?_ ?_ | refine AF fun c_ => ?_
  | (refine imp fun hc => ?_) <;> try exact cx1 hc
  | refine all fun v_ => ?_)
 refine AN (VS.cut (q := q) (f := Aa) (xs := xs) (E := 3) (sz := 1) (n := ((xs.length : Int) - 1).toNat) (h' := [.cells bm 193 [.val (q.cut ((xs.length : Int) - 1).toNat).v, .d (AK env)], AH (q.cut ((xs.length : Int) - 1).toNat).v 3 1 Aa (xs.take ((xs.length : Int) - 1).toNat)]) (by exact CI) (fun _ => rfl) (by omega)) ?_
 ((with_reducible apply rq1); rfl; rfl)
 refine ⟨q.cut ((xs.length : Int) - 1).toNat, ?_, by rw [hn]⟩
 simp only [hn]
 rfl
theorem pop (G : List (Nat × List D)) (bm : Nat) (env S : List Int) (a : Int) (q : Sl) (hS : S.length ≤ 1000) : AC Tryz.prog G 136 [.val (.pointer (some ⟨bm, 0, none⟩))] [.cells bm 193 [.val q.v, .d (AK env)], AH q.v 3 1 Aa (S ++ [a])] fun r h => ∃ v : Sl, r = .ret (.int a) ∧ h = [.cells bm 193 [.val v.v, .d (AK env)], AH v.v 3 1 Aa S] := by
 have := pop0 G bm env (S ++ [a]) S.length q (by simp) hS
 simp only [List.getElem_append_right (Nat.le_refl _), Nat.sub_self, List.getElem_cons_zero, List.take_left] at this
 exact this
theorem flag (G : List (Nat × List D)) (b : Bool) : ACr Tryz.prog G 172 [.bool b] (.int (if b = true then 1 else 0)) := by
 refine AJ (ts := [2]) Tryz.f172.ntmps Tryz.func172 rfl rfl rfl (by simp [Tryz.ntmps172]) fun W I => ?_
 cases b
 all_goals
  repeat' (first
   | exact True.intro | refine AG ?_ | refine two ?_ ?_ | refine AF fun c_ => ?_
   | (refine imp fun hc => ?_) <;> try exact cx1 hc
   | refine all fun v_ => ?_)
  refine A6 ?_
  ((with_reducible apply rq1); rfl; rfl)
  exact AB rfl
theorem bS : Cal Tryz.prog 168 := Cal.of Tryz.func168 (by kernel_rfl) (by kernel_rfl)
theorem clo1 (G : List (Nat × List D)) (ba bb : Nat) (x y : Int) (hx : Ak x) (hy : Ak y) : AC Tryz.prog G 168 [.val (.pointer (some ⟨ba, 0, none⟩)), .val (.pointer (some ⟨bb, 0, none⟩))] [.cells ba 3 [.int x], .cells bb 3 [.int y]] fun r h => ∃ v : Unit, r = .ret (.int (x + y)) ∧ h = [.cells ba 3 [.int x], .cells bb 3 [.int y]] := by
 have hm := Gf hx hy
 unfold Ak at hx hy
 refine AJ (ts := [2]) Tryz.f168.ntmps Tryz.func168 rfl rfl rfl (by simp [Tryz.ntmps168]) fun W I => ?_
 repeat' (first
  | refine ca FH (flag _ _) ?_
  | exact True.intro | refine AG ?_ | refine two ?_ ?_ | refine AF fun c_ => ?_
  | (refine imp fun hc => ?_) <;> try exact cx1 hc
  | refine all fun v_ => ?_)
 refine A6 ?_
 ((with_reducible apply rq1); rfl; rfl)
 exact ⟨(), rfl, rfl⟩
theorem Zw : Cal Tryz.prog 169 := Cal.of Tryz.func169 (by kernel_rfl) (by kernel_rfl)
theorem clo2 (G : List (Nat × List D)) (ba bb : Nat) (x y : Int) (hx : Ak x) (hy : Ak y) : AC Tryz.prog G 169 [.val (.pointer (some ⟨ba, 0, none⟩)), .val (.pointer (some ⟨bb, 0, none⟩))] [.cells ba 3 [.int x], .cells bb 3 [.int y]] fun r h => ∃ v : Unit, r = .ret (.int (x - y)) ∧ h = [.cells ba 3 [.int x], .cells bb 3 [.int y]] := by
 have hm := Gf hx hy
 unfold Ak at hx hy
 refine AJ (ts := [2]) Tryz.f169.ntmps Tryz.func169 rfl rfl rfl (by simp [Tryz.ntmps169]) fun W I => ?_
 repeat' (first
  | refine ca FH (flag _ _) ?_
  | exact True.intro | refine AG ?_ | refine two ?_ ?_ | refine AF fun c_ => ?_
  | (refine imp fun hc => ?_) <;> try exact cx1 hc
  | refine all fun v_ => ?_)
 refine A6 ?_
 ((with_reducible apply rq1); rfl; rfl)
 exact ⟨(), rfl, rfl⟩
theorem Zk : Cal Tryz.prog 170 := Cal.of Tryz.func170 (by kernel_rfl) (by kernel_rfl)
theorem clo3 (G : List (Nat × List D)) (ba bb : Nat) (x y : Int) (hx : Ak x) (hy : Ak y) : AC Tryz.prog G 170 [.val (.pointer (some ⟨ba, 0, none⟩)), .val (.pointer (some ⟨bb, 0, none⟩))] [.cells ba 3 [.int x], .cells bb 3 [.int y]] fun r h => ∃ v : Unit, r = .ret (.int (x * y)) ∧ h = [.cells ba 3 [.int x], .cells bb 3 [.int y]] := by
 have hm := Gf hx hy
 unfold Ak at hx hy
 refine AJ (ts := [2]) Tryz.f170.ntmps Tryz.func170 rfl rfl rfl (by simp [Tryz.ntmps170]) fun W I => ?_
 repeat' (first
  | refine ca FH (flag _ _) ?_
  | exact True.intro | refine AG ?_ | refine two ?_ ?_ | refine AF fun c_ => ?_
  | (refine imp fun hc => ?_) <;> try exact cx1 hc
  | refine all fun v_ => ?_)
 refine A6 ?_
 ((with_reducible apply rq1); rfl; rfl)
 exact ⟨(), rfl, rfl⟩
theorem bV : Cal Tryz.prog 171 := Cal.of Tryz.func171 (by kernel_rfl) (by kernel_rfl)
theorem clo4 (G : List (Nat × List D)) (ba bb : Nat) (x y : Int) (hx : Ak x) (hy : Ak y) : AC Tryz.prog G 171 [.val (.pointer (some ⟨ba, 0, none⟩)), .val (.pointer (some ⟨bb, 0, none⟩))] [.cells ba 3 [.int x], .cells bb 3 [.int y]] fun r h => ∃ v : Unit, r = .ret (.int (if decide (x = y) = true then 1 else 0)) ∧ h = [.cells ba 3 [.int x], .cells bb 3 [.int y]] := by
 have hm := Gf hx hy
 unfold Ak at hx hy
 refine AJ (ts := [2]) Tryz.f171.ntmps Tryz.func171 rfl rfl rfl (by simp [Tryz.ntmps171]) fun W I => ?_
 repeat' (first
  | refine ca FH (flag _ _) ?_
  | exact True.intro | refine AG ?_ | refine two ?_ ?_ | refine AF fun c_ => ?_
  | (refine imp fun hc => ?_) <;> try exact cx1 hc
  | refine all fun v_ => ?_)
 refine A6 ?_
 ((with_reducible apply rq1); rfl; rfl)
 exact ⟨(), rfl, rfl⟩
theorem aS : Cal Tryz.prog 173 := Cal.of Tryz.func173 (by kernel_rfl) (by kernel_rfl)
theorem clo5 (G : List (Nat × List D)) (ba bb : Nat) (x y : Int) (hx : Ak x) (hy : Ak y) : AC Tryz.prog G 173 [.val (.pointer (some ⟨ba, 0, none⟩)), .val (.pointer (some ⟨bb, 0, none⟩))] [.cells ba 3 [.int x], .cells bb 3 [.int y]] fun r h => ∃ v : Unit, r = .ret (.int (if decide (x < y) = true then 1 else 0)) ∧ h = [.cells ba 3 [.int x], .cells bb 3 [.int y]] := by
 have hm := Gf hx hy
 unfold Ak at hx hy
 refine AJ (ts := [2]) Tryz.f173.ntmps Tryz.func173 rfl rfl rfl (by simp [Tryz.ntmps173]) fun W I => ?_
 repeat' (first
  | refine ca FH (flag _ _) ?_
  | exact True.intro | refine AG ?_ | refine two ?_ ?_ | refine AF fun c_ => ?_
  | (refine imp fun hc => ?_) <;> try exact cx1 hc
  | refine all fun v_ => ?_)
 refine A6 ?_
 ((with_reducible apply rq1); rfl; rfl)
 exact ⟨(), rfl, rfl⟩
theorem bY : Cal Tryz.prog 174 := Cal.of Tryz.func174 (by kernel_rfl) (by kernel_rfl)
theorem clo6 (G : List (Nat × List D)) (ba bb : Nat) (x y : Int) (hx : Ak x) (hy : Ak y) : AC Tryz.prog G 174 [.val (.pointer (some ⟨ba, 0, none⟩)), .val (.pointer (some ⟨bb, 0, none⟩))] [.cells ba 3 [.int x], .cells bb 3 [.int y]] fun r h => ∃ v : Unit, r = .ret (.int (bits .and .i64 x y)) ∧ h = [.cells ba 3 [.int x], .cells bb 3 [.int y]] := by
 have hm := Gf hx hy
 unfold Ak at hx hy
 refine AJ (ts := [2]) Tryz.f174.ntmps Tryz.func174 rfl rfl rfl (by simp [Tryz.ntmps174]) fun W I => ?_
 repeat' (first
  | refine ca FH (flag _ _) ?_
  | exact True.intro | refine AG ?_ | refine two ?_ ?_ | refine AF fun c_ => ?_
  | (refine imp fun hc => ?_) <;> try exact cx1 hc
  | refine all fun v_ => ?_)
 refine A6 ?_
 ((with_reducible apply rq1); rfl; rfl)
 exact ⟨(), rfl, rfl⟩
theorem bG : Cal Tryz.prog 175 := Cal.of Tryz.func175 (by kernel_rfl) (by kernel_rfl)
theorem clo7 (G : List (Nat × List D)) (ba bb : Nat) (x y : Int) (hx : Ak x) (hy : Ak y) : AC Tryz.prog G 175 [.val (.pointer (some ⟨ba, 0, none⟩)), .val (.pointer (some ⟨bb, 0, none⟩))] [.cells ba 3 [.int x], .cells bb 3 [.int y]] fun r h => ∃ v : Unit, r = .ret (.int (bits .or .i64 x y)) ∧ h = [.cells ba 3 [.int x], .cells bb 3 [.int y]] := by
 have hm := Gf hx hy
 unfold Ak at hx hy
 refine AJ (ts := [2]) Tryz.f175.ntmps Tryz.func175 rfl rfl rfl (by simp [Tryz.ntmps175]) fun W I => ?_
 repeat' (first
  | refine ca FH (flag _ _) ?_
  | exact True.intro | refine AG ?_ | refine two ?_ ?_ | refine AF fun c_ => ?_
  | (refine imp fun hc => ?_) <;> try exact cx1 hc
  | refine all fun v_ => ?_)
 refine A6 ?_
 ((with_reducible apply rq1); rfl; rfl)
 exact ⟨(), rfl, rfl⟩

end Go.Proofs.YtnlfhnbcdfdhgaaGreatDoor
