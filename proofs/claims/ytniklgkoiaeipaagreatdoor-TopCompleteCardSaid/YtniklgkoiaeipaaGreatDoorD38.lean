/- A bundle of this claim's own texts: W7. -/
import Derived.Test.YtniklgkoiaeipaaGreatDoorD37
set_option linter.unusedVariables false
set_option linter.unusedSimpArgs false
set_option maxRecDepth 100000
set_option maxHeartbeats 4000000
namespace Go.Proofs.YtniklgkoiaeipaaGreatDoor
open Go Go.Av Go.Sp

theorem rest_step {a : La} {row : List Bool} {m : Nat} (h : ∀ (i : Nat) (hi : i < row.length) (hi' : a.nxt i < row.length), m < i → row[i] = a.step i row[a.nxt i]) (hm : ∀ (hi : m < row.length) (hi' : a.nxt m < row.length), row[m] = a.step m row[a.nxt m]) : ∀ (i : Nat) (hi : i < row.length) (hi' : a.nxt i < row.length), m ≤ i → row[i] = a.step i row[a.nxt i] := fun i hi hi' hmi => by
 by_cases e : i = m
 · subst e; exact hm hi hi'
 · exact h i hi hi' (by omega)
theorem settle (G : List (Nat × List D)) (l : List Fo) (es : List Int) (al : List (List Bool)) (s bt br bq at_ : Nat) (R : List AV) (a : La) (f : FuncId) (caps : Array Value) (ea eb : Ent) (row0 : List Bool) (hcal : Cal Tryz.prog f)
 (hac : ∀ (i : Nat), i < al.length → ∀ x : Bool, AC Tryz.prog G f ([.int i, .bool x] ++ caps.toList.map AV.val) [ea, eb] fun r h => ∃ v : Unit, r = .ret (.bool (a.step i x)) ∧ h = [ea, eb])
 (hn : a.nxt = wnx s al.length) (hs : s < al.length) (hN : al.length ≤ 24) (hat : at_ < l.length) (hR : R[at_]? = some (.val (.slice (some ⟨bq, 0, none⟩) al.length al.length))) (hr0 : row0.length = al.length) :
 AC Tryz.prog G 203 [.val (.pointer (some ⟨bt, 0, none⟩)), .int at_, .bool a.base, .val (.func (.func f) #[] caps)] [.cells bt 177 [.d (opsD l), .d (intsD es), .d (lettD al), .int s, .val (.slice (some ⟨br, 0, none⟩) l.length l.length)], .cells br 72 R, .cells bq 4 (row0.map AV.bool), ea, eb] fun r h => ∃ v : Unit, r = .ret (.tup []) ∧ h = [.cells bt 177 [.d (opsD l), .d (intsD es), .d (lettD al), .int s, .val (.slice (some ⟨br, 0, none⟩) l.length l.length)], .cells br 72 R, .cells bq 4 (((List.range al.length).map (a.up (al.length + 1))).map AV.bool), ea, eb] := by
 have hw : ∀ i, wnx s al.length i < al.length := fun i => by unfold wnx; split <;> omega
 refine AC_ofV (ts := []) Tryz.f203.ntmps Tryz.func203 rfl rfl rfl (by simp [Tryz.ntmps203]) fun W I => ?_
 repeat' (first
  | exact True.intro | refine stpH ?_ | refine two ?_ ?_ | refine allc fun c_ => ?_
  | (refine imp fun hc => ?_) <;> try exact cx1 hc
  | refine all fun v_ => ?_)
 refine J_loopV (X := Nat × List Bool) (fun y => [(0, .val (.pointer (some ⟨bt, 0, none⟩))), (2, .bool a.base), (3, .val (.func (.func f) #[] caps)), (8, .val (.slice (some ⟨bq, 0, none⟩) al.length al.length)), (21, .int al.length), (22, .int y.1)]) (fun y => [.cells bt 177 [.d (opsD l), .d (intsD es), .d (lettD al), .int s, .val (.slice (some ⟨br, 0, none⟩) l.length l.length)], .cells br 72 R, .cells bq 4 (y.2.map AV.bool), ea, eb]) (fun y => y.1 ≤ al.length ∧ y.2.length = al.length ∧ ∀ (i : Nat) (h : i < y.2.length), i < y.1 → y.2[i] = a.base) (fun y => al.length - y.1) (0, row0) ⟨Nat.zero_le _, hr0, fun i h h' => absurd h' (Nat.not_lt_zero _)⟩ (VS.of_le ?_) ?_
 · exact leD
 rintro ⟨i, row⟩ ⟨h1, h2, h3⟩
 dsimp only at h1 h2 h3 ⊢
 by_cases hi : i < al.length
 · repeat' (first
    | exact True.intro | refine stpH ?_ | refine two ?_ ?_ | refine allc fun c_ => ?_
    | (refine imp fun hc => ?_) <;> try exact cx1 hc
    | refine all fun v_ => ?_)
   refine ⟨(i + 1, row.set i a.base), ⟨by dsimp only; omega, by dsimp only; rw [List.length_set]; exact h2, fun j hj hji => ?_⟩, by dsimp only; omega, VS.of_le ?_⟩
   · dsimp only at hj hji ⊢
     rw [List.getElem_set]
     split
     · rfl
     · exact h3 j (by simpa using hj) (by omega)
   · exact leD
 obtain rfl : i = al.length := by omega
 obtain rfl : row = List.replicate al.length a.base := List.ext_getElem (by simp [h2]) fun j hj _ => by rw [h3 j hj (by omega)]; simp
 repeat' (first
  | exact True.intro | refine stpH ?_ | refine two ?_ ?_ | refine allc fun c_ => ?_
  | (refine imp fun hc => ?_) <;> try exact cx1 hc
  | refine all fun v_ => ?_)
 refine J_loopV (X := List Bool × Bool) (fun y => [(0, .val (.pointer (some ⟨bt, 0, none⟩))), (3, .val (.func (.func f) #[] caps)), (8, .val (.slice (some ⟨bq, 0, none⟩) al.length al.length)), (10, .bool y.2)]) (fun y => [.cells bt 177 [.d (opsD l), .d (intsD es), .d (lettD al), .int s, .val (.slice (some ⟨br, 0, none⟩) l.length l.length)], .cells br 72 R, .cells bq 4 (y.1.map AV.bool), ea, eb]) (fun y => y.1.length = al.length ∧ RowOn a y.1 ∧ (y.2 = false → ∀ (i : Nat) (hi : i < y.1.length) (hi' : a.nxt i < y.1.length), y.1[i] = a.step i y.1[a.nxt i])) (fun y => 2 * atBase a.base y.1 + if y.2 then 1 else 0) (List.replicate al.length a.base, true) ⟨h2, RowOn.start a _, fun h => by cases h⟩ (VS.of_le ?_) ?_
 · exact leD
 clear h1 h2 h3 hi
 rintro ⟨row, ch⟩ ⟨h1, h2, h3⟩
 dsimp only at h1 h2 h3 ⊢
 cases ch with
 | false =>
   repeat' (first
    | exact True.intro | refine stpH ?_ | refine two ?_ ?_ | refine allc fun c_ => ?_
    | (refine imp fun hc => ?_) <;> try exact cx1 hc
    | refine all fun v_ => ?_)
   refine retv0 ?_
   refine ⟨(), rfl, ?_⟩
   have := h2.scan (s := s) (by rw [h1]; exact hn) (by omega) (h3 rfl)
   have : row = (List.range al.length).map (a.up (al.length + 1)) := row_ext h1 (fun i hi => by rw [this i hi, h1])
   rw [← this]
 | true =>
   clear h3
   repeat' (first
    | exact True.intro | refine stpH ?_ | refine two ?_ ?_ | refine allc fun c_ => ?_
    | (refine imp fun hc => ?_) <;> try exact cx1 hc
    | refine all fun v_ => ?_)
   refine J_loopV (X := Nat × List Bool × Bool) (fun y => [(0, .val (.pointer (some ⟨bt, 0, none⟩))), (3, .val (.func (.func f) #[] caps)), (8, .val (.slice (some ⟨bq, 0, none⟩) al.length al.length)), (10, .bool y.2.2), (11, .int ((y.1 : Int) - 1))]) (fun y => [.cells bt 177 [.d (opsD l), .d (intsD es), .d (lettD al), .int s, .val (.slice (some ⟨br, 0, none⟩) l.length l.length)], .cells br 72 R, .cells bq 4 (y.2.1.map AV.bool), ea, eb])
    (fun y => y.1 ≤ al.length ∧ y.2.1.length = al.length ∧ RowOn a y.2.1 ∧ (y.2.2 = true → atBase a.base y.2.1 < atBase a.base row) ∧ (y.2.2 = false → y.2.1 = row ∧ ∀ (i : Nat) (hi : i < row.length) (hi' : a.nxt i < row.length), y.1 ≤ i → row[i] = a.step i row[a.nxt i])) (fun y => y.1) (al.length, row, false)
    ⟨Nat.le_refl _, h1, h2, fun h => (by cases h), fun _ => ⟨rfl, fun i hi _ h => by dsimp only at h; omega⟩⟩ (VS.of_le ?_) ?_
   · exact leD
   rintro ⟨j, row', ch⟩ ⟨k1, k2, k3, k4, k5⟩
   dsimp only at k1 k2 k3 k4 k5 ⊢
   cases j with
   | zero =>
     repeat' (first
      | exact True.intro | refine stpH ?_ | refine two ?_ ?_ | refine allc fun c_ => ?_
      | (refine imp fun hc => ?_) <;> try exact cx1 hc
      | refine all fun v_ => ?_)
     refine ⟨(row', ch), ⟨k2, k3, fun h => ?_⟩, ?_, VS.of_le ?_⟩
     · obtain ⟨rfl, k6⟩ := k5 h
       exact fun i hi hi' => k6 i hi hi' (Nat.zero_le _)
     · dsimp only
       cases ch with
       | true => have := k4 rfl; simp; omega
       | false => obtain ⟨rfl, _⟩ := k5 rfl; simp
     · exact leD
   | succ m =>
     have hm : m < al.length := by omega
     have hwm := hw m
     have hm1 : ((m + 1 : Nat) : Int) - 1 = (m : Int) := by omega
     have hst : RowOn a (row'.set m (a.step m (row'[wnx s al.length m]'(by omega)))) := by
      have := k3.set (j := m) (by omega) (by rw [hn]; omega)
      simp only [hn] at this; exact this
     have hmv : a.step m (row'[wnx s al.length m]'(by omega)) ≠ row'[m]'(by omega) → atBase a.base (row'.set m (a.step m (row'[wnx s al.length m]'(by omega)))) + 1 = atBase a.base row' := fun hd => by
      have := k3.moved (j := m) (by omega) (by rw [hn]; omega)
      simp only [hn] at this; exact this hd
     have hrs : a.step m (row'[wnx s al.length m]'(by omega)) = row'[m]'(by omega) → ch = false → ∀ (i : Nat) (hi : i < row.length) (hi' : a.nxt i < row.length), m ≤ i → row[i] = a.step i row[a.nxt i] := fun he h0 => by
      obtain ⟨rfl, k6⟩ := k5 h0
      refine rest_step (fun i hi hi' hmi => k6 i hi hi' (by omega)) fun _ _ => ?_
      simp only [hn]; exact he.symm
     have E := hac m hm (row'[wnx s al.length m]'(by omega))
     generalize a.step m (row'[wnx s al.length m]'(by omega)) = x at hst hmv hrs E
     rw [hm1]
     repeat' (first
      | ((with_reducible apply callG); (focus rfl); (focus exact cal_behind); (focus exact behind G l es al s bt br m hN (by omega)); (focus exact takeD); (focus rfl); (focus exact appD))
      | ((with_reducible apply callGV); (focus rfl); (focus rfl); (focus exact hcal); (focus exact E); (focus exact takeD); (focus rfl); (focus exact appD))
      | exact True.intro | refine stpH ?_ | refine two ?_ ?_ | refine allc fun c_ => ?_
      | (refine imp fun hc => ?_) <;> try exact cx1 hc
      | refine all fun v_ => ?_)
     · have hx : x = row'[m]'(by omega) := by simpa using hc
       refine ⟨(m, row', ch), ⟨by dsimp only; omega, k2, k3, k4, fun h => ⟨(k5 h).1, hrs hx h⟩⟩, by dsimp only; omega, VS.take (by exact takeD) ?_⟩
       exact leD
     · refine ⟨(m, row'.set m x, true), ⟨by dsimp only; omega, by dsimp only; rw [List.length_set]; exact k2, hst, fun _ => ?_, fun h => (by cases h)⟩, by dsimp only; omega, VS.take (by exact takeD) ?_⟩
       · dsimp only
         have e := hmv (by simpa using hc)
         cases ch with
         | true => have := k4 rfl; omega
         | false => obtain ⟨rfl, _⟩ := k5 rfl; omega
       · exact leD
end Go.Proofs.YtniklgkoiaeipaaGreatDoor
