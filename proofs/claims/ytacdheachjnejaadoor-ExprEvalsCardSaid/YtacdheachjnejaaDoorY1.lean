/- Contracts: expr's machine: pop, flag, do. -/
import Derived.Test.YtacdheachjnejaaDoorT8
import Derived.Test.YtacdheachjnejaaDoorSu
import Derived.Test.YtacdheachjnejaaDoorE7
import Derived.Test.YtacdheachjnejaaDoorG9
namespace Go.Av
open Go Go.Instr
set_option linter.unusedVariables false
set_option linter.unusedSimpArgs false
section
variable {P : Program} {G : List (Nat × List D)} {ρ : Env} {h : H} {dst : Option Tmp} {ty : TypeId} {pos : String} {after : Array Edge} {g : Option (Nat × Bool)}
theorem pu_lookM1 {α β : Type} [DecidableEq α] {kd : TypeDesc} {kv : α → Value} {vv : β → Value} (K : KeyK kd kv) {T KT ET : TypeId} {x y : Operand} {b : Nat} {ps : List (α × β)} {a : α}
    (hx : evO ρ x = some (.val (.map (some b)))) (hy : evO ρ y = some (.val (kv a))) (hT : P.underlying T = some (.map KT ET)) (hK : P.underlying KT = some kd) (hm : Ent.raw b (mapO (entL kv vv ps)) ∈ h) {c : β} (hc : getM ps a = some c) :
    Pure P G ⟨dst, .lookup T x y false, ty, pos, after, g⟩ ρ h (.val (vv c)) := by
  intro cx I n ac w _ hok hs
  have e1 := rel_val (hs.ev x) (ev_of_evO hx)
  have e2 := rel_val (hs.ev y) (ev_of_evO hy)
  have hb : w.heap[b]? = some (mapO (entL kv vv ps)) := hok.ent _ hm
  refine ⟨vv c, rfl, fun w' hw' => ?_⟩
  have hb' : w'.heap[b]? = some (mapO (entL kv vv ps)) := (hw'.own b (mem_blks hm rfl)).trans hb
  have hobj : (getObj b).run P w' = .ok (.map (mapEs (entL kv vv ps) 0).toArray (entL kv vv ps).length) w' := by simp [getObj, Sem.run, hb', mapO]
  obtain ⟨r, hr1, hr2⟩ := run_find (vv := vv) K hK ps a w'
  simp only [execOp, e1, e2, lookup]
  rw [hc] at hr2
  cases r with
  | none => cases hr2
  | some p =>
    obtain ⟨j, v⟩ := p
    obtain rfl : v = vv c := by simpa using hr2
    simp [run_underlying hT, hobj, K.easy P KT _ a w' hK, hr1]
end
section
variable {k : Kx} {Q : Exit → Env → H → Prop} {ρ : Env} {h h' : H} {ops : Array Oper} {l : List Oper} {d : Nat} {ty : TypeId} {pos : String} {after : Array Edge} {g : Option (Nat × Bool)}
-- an entry of a literal
theorem js_insMr {α β : Type} [DecidableEq α] {kd : TypeDesc} {kv : α → Value} {vv : β → Value} (K : KeyK kd kv) {T KT ET : TypeId} {x y u : Operand} {r : AV} {b : Nat} {ps : List (α × β)} {a : α} {c : β}
    (hx : evO ρ x = some (.val (.map (some b)))) (hy : evO ρ y = some (.val (kv a))) (hv : evO ρ u = some r) (hr : ∀ w I v, AV.rel w I r v → v = vv c) (hT : k.P.underlying T = some (.map KT ET)) (hK : k.P.underlying KT = some kd)
    (hu : Upd (.raw b (mapO (entL kv vv ps))) (.raw b (mapO (entL kv vv (ps ++ [(a, c)])))) h h') (hno : getM ps a = none)
    (hj : JL k ops l Q ρ h') : JL k ops (⟨none, .insert T x y u, ty, pos, after, none⟩ :: l) Q ρ h := by
  obtain ⟨h1, h2, rfl, rfl⟩ := hu.split
  refine JL_eff_skip rfl rfl fun I ac w k1 k2 => ?_
  have e1 := rel_val (k2.ev x) (ev_of_evO hx)
  have e2 := rel_val (k2.ev y) (ev_of_evO hy)
  have e3 := hr _ _ _ (rel_as (k2.ev u) (ev_of_evO hv))
  have hb : w.heap[b]? = some (mapO (entL kv vv ps)) := k1.ent (.raw b (mapO (entL kv vv ps))) (by simp)
  have hfind := find_no (vv := vv) K a ps 0 0 (getM_none.1 hno)
  have hnew : Obj.map (mapEs (entL kv vv ps) 0 ++ [(⟨kv a, vv c, (entL kv vv ps).length⟩ : MapEntry)]).toArray ((entL kv vv ps).length + 1) = mapO (entL kv vv (ps ++ [(a, c)])) := by
    have e : entL kv vv (ps ++ [(a, c)]) = entL kv vv ps ++ [(kv a, vv c)] := by simp [entL]
    unfold mapO
    rw [e, mapEs_append]
    simp [mapEs]
  obtain ⟨g1, g2⟩ := k1.write (w' := { w with heap := w.heap.setIfInBounds b (mapO (entL kv vv (ps ++ [(a, c)]))) }) (e' := .raw b (mapO (entL kv vv (ps ++ [(a, c)])))) (b := b) rfl rfl rfl rfl rfl (by simp)
    (fun x hx => by simp [Array.getElem?_setIfInBounds, Ne.symm hx]) (by
      have hlt := (Array.getElem?_eq_some_iff.1 hb).1
      show _ = _
      simp [Array.getElem?_setIfInBounds, hlt])
  refine ⟨{ w with heap := w.heap.setIfInBounds b (mapO (entL kv vv (ps ++ [(a, c)]))) }, I, h1 ++ .raw b (mapO (entL kv vv (ps ++ [(a, c)]))) :: h2, ?_, g1, k2.mono g2 (fun _ h => h), hj⟩
  have hobj : (getObj b).run k.P w = .ok (.map (mapEs (entL kv vv ps) 0).toArray (entL kv vv ps).length) w := by simp [getObj, Sem.run, hb, mapO]
  have hset := run_setM (P := k.P) (w := w) (r := b) (mapO (entL kv vv (ps ++ [(a, c)]))) (es := (mapEs (entL kv vv ps) 0).toArray) (clock := (entL kv vv ps).length) hb
  simp only [execOp, e1, e2, e3, mapUpdate]
  simp [run_underlying hT, hobj, K.easy k.P KT false a w hK, findKey, run_underlying hK, hfind, hnew, hset]
theorem jmkmapE {α β : Type} (kv : α → Value) (vv : β → Value) {T : TypeId} (hd : Nat.blt d k.n = true) (hj : All fun b : Nat => JL k ops l Q ((d, .val (.map (some b))) :: ρ) (.raw b (mapO (entL kv vv [])) :: h)) : JL k ops (⟨some d, .makeMap T none, ty, pos, after, none⟩ :: l) Q ρ h := jmkmap hd hj
end
end Go.Av
namespace Go.Proofs.YtacdheachjnejaaDoor
open Go Go.Av Go.Sp
set_option linter.unusedVariables false
set_option linter.unusedSimpArgs false
set_option maxRecDepth 100000
set_option maxHeartbeats 4000000
theorem cal_pop : Cal Tryd.prog 45 := Cal.of Tryd.func45 (by kernel_rfl) (by kernel_rfl)
theorem cal_flag : Cal Tryd.prog 70 := Cal.of Tryd.func70 (by kernel_rfl) (by kernel_rfl)
theorem mul_lim {x y : Int} (hx : limP x) (hy : limP y) : inI64 (x * y) := by
  have h : (x * y).natAbs ≤ 1000000 * 1000000 := by
    rw [Int.natAbs_mul]
    unfold limP at hx hy
    exact Nat.mul_le_mul (by omega) (by omega)
  generalize x * y = z at h
  unfold inI64; omega
theorem pop0 (G : List (Nat × List D)) (bm : Nat) (env xs : List Int) (n : Nat) (q : Sl) (hl : xs.length = n + 1) (hS : n ≤ 1000) : AC Tryd.prog G 45 [.val (.pointer (some ⟨bm, 0, none⟩))] [.cells bm 65 [.val q.v, .d (intsD env)], rowE q.v 3 1 intC xs] fun r h => ∃ v : Sl, r = .ret (.int (xs[n]'(by omega))) ∧ h = [.cells bm 65 [.val v.v, .d (intsD env)], rowE v.v 3 1 intC (xs.take n)] := by
  refine AC_ofV (ts := [2]) Tryd.f45.ntmps Tryd.func45 rfl rfl rfl (by simp [Tryd.ntmps45]) fun W I => ?_
  have hn : ((xs.length : Int) - 1).toNat = n := by omega
  repeat' (first
    | exact True.intro
    | refine stph ?_
    | refine two ?_ ?_
    | refine allc fun c_ => ?_
    | (refine imp fun hc => ?_) <;> try (first | contradiction | (exfalso; omega) | (exfalso; exact absurd (of_dT hc) (by assumption)) | (exfalso; exact of_dF hc (by assumption)))
    | refine all fun v_ => ?_)
  refine retv (VS.cut (q := q) (f := intC) (xs := xs) (E := 3) (sz := 1) (n := ((xs.length : Int) - 1).toNat) (h' := [.cells bm 65 [.val (q.cut ((xs.length : Int) - 1).toNat).v, .d (intsD env)], rowE (q.cut ((xs.length : Int) - 1).toNat).v 3 1 intC (xs.take ((xs.length : Int) - 1).toNat)]) (by ((repeat (first | with_reducible exact Upd.here | with_reducible apply Upd.there)); done)) (fun _ => rfl) (by omega)) ?_
  ((with_reducible apply rq1); rfl; rfl)
  refine ⟨q.cut ((xs.length : Int) - 1).toNat, ?_, by rw [hn]⟩
  simp only [hn]
  rfl
theorem pop (G : List (Nat × List D)) (bm : Nat) (env S : List Int) (a : Int) (q : Sl) (hS : S.length ≤ 1000) : AC Tryd.prog G 45 [.val (.pointer (some ⟨bm, 0, none⟩))] [.cells bm 65 [.val q.v, .d (intsD env)], rowE q.v 3 1 intC (S ++ [a])] fun r h => ∃ v : Sl, r = .ret (.int a) ∧ h = [.cells bm 65 [.val v.v, .d (intsD env)], rowE v.v 3 1 intC S] := by
  have := pop0 G bm env (S ++ [a]) S.length q (by simp) hS
  simp only [List.getElem_append_right (Nat.le_refl _), Nat.sub_self, List.getElem_cons_zero, List.take_left] at this
  exact this
theorem flag (G : List (Nat × List D)) (b : Bool) : ACr Tryd.prog G 70 [.bool b] (.int (if b = true then 1 else 0)) := by
  refine AC_ofV (ts := [2]) Tryd.f70.ntmps Tryd.func70 rfl rfl rfl (by simp [Tryd.ntmps70]) fun W I => ?_
  cases b
  all_goals
    repeat' (first
      | exact True.intro
      | refine stph ?_
      | refine two ?_ ?_
      | refine allc fun c_ => ?_
      | (refine imp fun hc => ?_) <;> try (first | contradiction | (exfalso; omega) | (exfalso; exact absurd (of_dT hc) (by assumption)) | (exfalso; exact of_dF hc (by assumption)))
      | refine all fun v_ => ?_)
    refine retv0 ?_
    ((with_reducible apply rq1); rfl; rfl)
    exact ret_eq rfl
theorem cal_do1 : Cal Tryd.prog 66 := Cal.of Tryd.func66 (by kernel_rfl) (by kernel_rfl)
theorem clo1 (G : List (Nat × List D)) (ba bb : Nat) (x y : Int) (hx : limP x) (hy : limP y) : AC Tryd.prog G 66 [.val (.pointer (some ⟨ba, 0, none⟩)), .val (.pointer (some ⟨bb, 0, none⟩))] [.cells ba 3 [.int x], .cells bb 3 [.int y]] fun r h => ∃ v : Unit, r = .ret (.int (x + y)) ∧ h = [.cells ba 3 [.int x], .cells bb 3 [.int y]] := by
  have hm := mul_lim hx hy
  unfold limP at hx hy
  refine AC_ofV (ts := [2]) Tryd.f66.ntmps Tryd.func66 rfl rfl rfl (by simp [Tryd.ntmps66]) fun W I => ?_
  repeat' (first
    | ((with_reducible apply call0); (focus rfl); (focus exact cal_flag); (focus exact flag _ _); (focus rfl))
    | ((with_reducible apply je_call0); (focus rfl); (focus (decide +kernel)); (focus rfl); (focus exact cal_flag); (focus exact flag _ _); (focus rfl))
    | exact True.intro
    | refine stph ?_
    | refine two ?_ ?_
    | refine allc fun c_ => ?_
    | (refine imp fun hc => ?_) <;> try (first | contradiction | (exfalso; omega) | (exfalso; exact absurd (of_dT hc) (by assumption)) | (exfalso; exact of_dF hc (by assumption)))
    | refine all fun v_ => ?_)
  refine retv0 ?_
  ((with_reducible apply rq1); rfl; rfl)
  exact ⟨(), rfl, rfl⟩
theorem cal_do2 : Cal Tryd.prog 67 := Cal.of Tryd.func67 (by kernel_rfl) (by kernel_rfl)
theorem clo2 (G : List (Nat × List D)) (ba bb : Nat) (x y : Int) (hx : limP x) (hy : limP y) : AC Tryd.prog G 67 [.val (.pointer (some ⟨ba, 0, none⟩)), .val (.pointer (some ⟨bb, 0, none⟩))] [.cells ba 3 [.int x], .cells bb 3 [.int y]] fun r h => ∃ v : Unit, r = .ret (.int (x - y)) ∧ h = [.cells ba 3 [.int x], .cells bb 3 [.int y]] := by
  have hm := mul_lim hx hy
  unfold limP at hx hy
  refine AC_ofV (ts := [2]) Tryd.f67.ntmps Tryd.func67 rfl rfl rfl (by simp [Tryd.ntmps67]) fun W I => ?_
  repeat' (first
    | ((with_reducible apply call0); (focus rfl); (focus exact cal_flag); (focus exact flag _ _); (focus rfl))
    | ((with_reducible apply je_call0); (focus rfl); (focus (decide +kernel)); (focus rfl); (focus exact cal_flag); (focus exact flag _ _); (focus rfl))
    | exact True.intro
    | refine stph ?_
    | refine two ?_ ?_
    | refine allc fun c_ => ?_
    | (refine imp fun hc => ?_) <;> try (first | contradiction | (exfalso; omega) | (exfalso; exact absurd (of_dT hc) (by assumption)) | (exfalso; exact of_dF hc (by assumption)))
    | refine all fun v_ => ?_)
  refine retv0 ?_
  ((with_reducible apply rq1); rfl; rfl)
  exact ⟨(), rfl, rfl⟩
theorem cal_do3 : Cal Tryd.prog 68 := Cal.of Tryd.func68 (by kernel_rfl) (by kernel_rfl)
theorem clo3 (G : List (Nat × List D)) (ba bb : Nat) (x y : Int) (hx : limP x) (hy : limP y) : AC Tryd.prog G 68 [.val (.pointer (some ⟨ba, 0, none⟩)), .val (.pointer (some ⟨bb, 0, none⟩))] [.cells ba 3 [.int x], .cells bb 3 [.int y]] fun r h => ∃ v : Unit, r = .ret (.int (x * y)) ∧ h = [.cells ba 3 [.int x], .cells bb 3 [.int y]] := by
  have hm := mul_lim hx hy
  unfold limP at hx hy
  refine AC_ofV (ts := [2]) Tryd.f68.ntmps Tryd.func68 rfl rfl rfl (by simp [Tryd.ntmps68]) fun W I => ?_
  repeat' (first
    | ((with_reducible apply call0); (focus rfl); (focus exact cal_flag); (focus exact flag _ _); (focus rfl))
    | ((with_reducible apply je_call0); (focus rfl); (focus (decide +kernel)); (focus rfl); (focus exact cal_flag); (focus exact flag _ _); (focus rfl))
    | exact True.intro
    | refine stph ?_
    | refine two ?_ ?_
    | refine allc fun c_ => ?_
    | (refine imp fun hc => ?_) <;> try (first | contradiction | (exfalso; omega) | (exfalso; exact absurd (of_dT hc) (by assumption)) | (exfalso; exact of_dF hc (by assumption)))
    | refine all fun v_ => ?_)
  refine retv0 ?_
  ((with_reducible apply rq1); rfl; rfl)
  exact ⟨(), rfl, rfl⟩
theorem cal_do4 : Cal Tryd.prog 69 := Cal.of Tryd.func69 (by kernel_rfl) (by kernel_rfl)
theorem clo4 (G : List (Nat × List D)) (ba bb : Nat) (x y : Int) (hx : limP x) (hy : limP y) : AC Tryd.prog G 69 [.val (.pointer (some ⟨ba, 0, none⟩)), .val (.pointer (some ⟨bb, 0, none⟩))] [.cells ba 3 [.int x], .cells bb 3 [.int y]] fun r h => ∃ v : Unit, r = .ret (.int (if decide (x = y) = true then 1 else 0)) ∧ h = [.cells ba 3 [.int x], .cells bb 3 [.int y]] := by
  have hm := mul_lim hx hy
  unfold limP at hx hy
  refine AC_ofV (ts := [2]) Tryd.f69.ntmps Tryd.func69 rfl rfl rfl (by simp [Tryd.ntmps69]) fun W I => ?_
  repeat' (first
    | ((with_reducible apply call0); (focus rfl); (focus exact cal_flag); (focus exact flag _ _); (focus rfl))
    | ((with_reducible apply je_call0); (focus rfl); (focus (decide +kernel)); (focus rfl); (focus exact cal_flag); (focus exact flag _ _); (focus rfl))
    | exact True.intro
    | refine stph ?_
    | refine two ?_ ?_
    | refine allc fun c_ => ?_
    | (refine imp fun hc => ?_) <;> try (first | contradiction | (exfalso; omega) | (exfalso; exact absurd (of_dT hc) (by assumption)) | (exfalso; exact of_dF hc (by assumption)))
    | refine all fun v_ => ?_)
  refine retv0 ?_
  ((with_reducible apply rq1); rfl; rfl)
  exact ⟨(), rfl, rfl⟩
theorem cal_do5 : Cal Tryd.prog 71 := Cal.of Tryd.func71 (by kernel_rfl) (by kernel_rfl)
theorem clo5 (G : List (Nat × List D)) (ba bb : Nat) (x y : Int) (hx : limP x) (hy : limP y) : AC Tryd.prog G 71 [.val (.pointer (some ⟨ba, 0, none⟩)), .val (.pointer (some ⟨bb, 0, none⟩))] [.cells ba 3 [.int x], .cells bb 3 [.int y]] fun r h => ∃ v : Unit, r = .ret (.int (if decide (x < y) = true then 1 else 0)) ∧ h = [.cells ba 3 [.int x], .cells bb 3 [.int y]] := by
  have hm := mul_lim hx hy
  unfold limP at hx hy
  refine AC_ofV (ts := [2]) Tryd.f71.ntmps Tryd.func71 rfl rfl rfl (by simp [Tryd.ntmps71]) fun W I => ?_
  repeat' (first
    | ((with_reducible apply call0); (focus rfl); (focus exact cal_flag); (focus exact flag _ _); (focus rfl))
    | ((with_reducible apply je_call0); (focus rfl); (focus (decide +kernel)); (focus rfl); (focus exact cal_flag); (focus exact flag _ _); (focus rfl))
    | exact True.intro
    | refine stph ?_
    | refine two ?_ ?_
    | refine allc fun c_ => ?_
    | (refine imp fun hc => ?_) <;> try (first | contradiction | (exfalso; omega) | (exfalso; exact absurd (of_dT hc) (by assumption)) | (exfalso; exact of_dF hc (by assumption)))
    | refine all fun v_ => ?_)
  refine retv0 ?_
  ((with_reducible apply rq1); rfl; rfl)
  exact ⟨(), rfl, rfl⟩
theorem cal_do6 : Cal Tryd.prog 72 := Cal.of Tryd.func72 (by kernel_rfl) (by kernel_rfl)
theorem clo6 (G : List (Nat × List D)) (ba bb : Nat) (x y : Int) (hx : limP x) (hy : limP y) : AC Tryd.prog G 72 [.val (.pointer (some ⟨ba, 0, none⟩)), .val (.pointer (some ⟨bb, 0, none⟩))] [.cells ba 3 [.int x], .cells bb 3 [.int y]] fun r h => ∃ v : Unit, r = .ret (.int (bits .and .i64 x y)) ∧ h = [.cells ba 3 [.int x], .cells bb 3 [.int y]] := by
  have hm := mul_lim hx hy
  unfold limP at hx hy
  refine AC_ofV (ts := [2]) Tryd.f72.ntmps Tryd.func72 rfl rfl rfl (by simp [Tryd.ntmps72]) fun W I => ?_
  repeat' (first
    | ((with_reducible apply call0); (focus rfl); (focus exact cal_flag); (focus exact flag _ _); (focus rfl))
    | ((with_reducible apply je_call0); (focus rfl); (focus (decide +kernel)); (focus rfl); (focus exact cal_flag); (focus exact flag _ _); (focus rfl))
    | exact True.intro
    | refine stph ?_
    | refine two ?_ ?_
    | refine allc fun c_ => ?_
    | (refine imp fun hc => ?_) <;> try (first | contradiction | (exfalso; omega) | (exfalso; exact absurd (of_dT hc) (by assumption)) | (exfalso; exact of_dF hc (by assumption)))
    | refine all fun v_ => ?_)
  refine retv0 ?_
  ((with_reducible apply rq1); rfl; rfl)
  exact ⟨(), rfl, rfl⟩
theorem cal_do7 : Cal Tryd.prog 73 := Cal.of Tryd.func73 (by kernel_rfl) (by kernel_rfl)
theorem clo7 (G : List (Nat × List D)) (ba bb : Nat) (x y : Int) (hx : limP x) (hy : limP y) : AC Tryd.prog G 73 [.val (.pointer (some ⟨ba, 0, none⟩)), .val (.pointer (some ⟨bb, 0, none⟩))] [.cells ba 3 [.int x], .cells bb 3 [.int y]] fun r h => ∃ v : Unit, r = .ret (.int (bits .or .i64 x y)) ∧ h = [.cells ba 3 [.int x], .cells bb 3 [.int y]] := by
  have hm := mul_lim hx hy
  unfold limP at hx hy
  refine AC_ofV (ts := [2]) Tryd.f73.ntmps Tryd.func73 rfl rfl rfl (by simp [Tryd.ntmps73]) fun W I => ?_
  repeat' (first
    | ((with_reducible apply call0); (focus rfl); (focus exact cal_flag); (focus exact flag _ _); (focus rfl))
    | ((with_reducible apply je_call0); (focus rfl); (focus (decide +kernel)); (focus rfl); (focus exact cal_flag); (focus exact flag _ _); (focus rfl))
    | exact True.intro
    | refine stph ?_
    | refine two ?_ ?_
    | refine allc fun c_ => ?_
    | (refine imp fun hc => ?_) <;> try (first | contradiction | (exfalso; omega) | (exfalso; exact absurd (of_dT hc) (by assumption)) | (exfalso; exact of_dF hc (by assumption)))
    | refine all fun v_ => ?_)
  refine retv0 ?_
  ((with_reducible apply rq1); rfl; rfl)
  exact ⟨(), rfl, rfl⟩

end Go.Proofs.YtacdheachjnejaaDoor
