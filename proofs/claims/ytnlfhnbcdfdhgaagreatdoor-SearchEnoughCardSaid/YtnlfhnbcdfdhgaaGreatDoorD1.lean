/- A bundle of this claim's own texts: H6 P9 E17 P24. -/
import Derived.Test.YtnlfhnbcdfdhgaaGreatDoorF39
import Derived.Test.YtnlfhnbcdfdhgaaGreatDoorF41
set_option linter.unusedVariables false
set_option linter.unusedSimpArgs false
set_option maxRecDepth 100000
set_option maxHeartbeats 4000000
namespace Go.Sp
open Go Go.Av

section
variable {t : Tk} {e : Exp}
theorem gP (t : Tk) (k j : Nat) : ∀ x : Ms, wkF t (k + j) x = wkF t j (wkF t k x) := by
 induction k with
 | zero => intro x; rw [Nat.zero_add]; rfl
 | succ k ih =>
   intro x
   rw [show k + 1 + j = (k + j) + 1 by omega]
   by_cases c : Gu t x
   · rw [KY c, KY c, ih]
   · rw [Ib c, Ib c, Ib c]
theorem fZ (t : Tk) (l r : List Fo) : runM t (l ++ r) = r.foldl (mvF t) (runM t l) := by unfold runM; rw [List.foldl_append]
theorem DL.kp_most {x : Ms} (h : DL t e x) {b : Nat} (hb : 1048576 ≤ b) : kpF t (byF t x.s + b) x.n = x.n :=
 UF t (Nat.le_refl _) (by have := h.ms.b; omega) (.inl rfl)
theorem DL.crashAll {x : Ms} (h : DL t e x) : (mvF t x ⟨3, 2147483647⟩).n = x.n := by
 by_cases c : x.up = true
 · rw [Ij c]; exact h.kp_most (by decide)
 · rw [Ip (by simpa using c) (by dsimp only; decide)]
end
theorem fU {a b : List Fo} (ha : ∀ m ∈ a, okM m) (hb : ∀ m ∈ b, okM m) : ∀ m ∈ a ++ b, okM m := fun m h => (List.mem_append.1 h).elim (ha m) (hb m)
end Go.Sp
namespace Go.Av
open Go
section
variable {k : Kx} {Q : Exit → Env → H → Prop} {ρ : Env} {h h' : H} {ops : Array Oper} {l : List Oper} {d : Nat} {ty : TypeId} {pos : String} {after : Array Edge}
theorem fe {T E : TypeId} {x0 x1 x2 : Operand} {a0 b0 a1 b1 a2 b2 : Int} {z : Value} {eb : Nat} (hx0 : evO ρ x0 = some (.agg [.int a0, .int b0])) (hx1 : evO ρ x1 = some (.agg [.int a1, .int b1])) (hx2 : evO ρ x2 = some (.agg [.int a2, .int b2])) (hT : k.P.underlying T = some (.slice E)) (he : El k.P E z 2 eb) (hb : Nat.ble eb 1000000 = true)
 (hd : Nat.blt d k.n = true) (hj : JL k ops l Q ((d, .d (.l 2 eb [[.i .i64 a0, .i .i64 b0], [.i .i64 a1, .i .i64 b1], [.i .i64 a2, .i .i64 b2]])) :: ρ) h) : JL k ops (⟨some d, .buildSlice T 3 #[(0, x0), (1, x1), (2, x2)], ty, pos, after, none⟩ :: l) Q ρ h := by
 have hb' := Nat.le_of_ble_eq_true hb
 refine Bp (xs := [x0, x1, x2]) (rows := [[.i .i64 a0, .i .i64 b0], [.i .i64 a1, .i .i64 b1], [.i .i64 a2, .i .i64 b2]]) hT he (by decide) rfl rfl ?_ ?_ ?_ ?_ ?_ (fun t ht => by cases ht; exact blt hd) hj
 · simp [AA hx0, AA hx1, AA hx2, D.av, AV.cl]
 · intro o ho
   simp only [List.mem_cons, List.not_mem_nil, or_false] at ho
   rcases ho with rfl | rfl | rfl
   · rw [AA hx0]; rfl
   · rw [AA hx1]; rfl
   · rw [AA hx2]; rfl
 · intro r hr
   simp only [List.mem_cons, List.not_mem_nil, or_false] at hr
   rcases hr with rfl | rfl | rfl <;> rfl
 · simp; omega
 · simp
end
end Go.Av
namespace Go.Proofs.YtnlfhnbcdfdhgaaGreatDoor
open Go Go.Av Go.Sp
theorem fY (l : List Fo) (hr : BH l) (most : Nat) (hm : most ≤ 1000) : AC Tryz.prog GP 21 [.d (AO l), .int most] [] fun r h => ∃ q : Sl, r = .ret (.val q.v) ∧ h = [AH q.v 59 2 Fo.cells (C8 l most)] := by
 refine AJ (ts := [4]) Tryz.f21.ntmps Tryz.func21 rfl rfl rfl (by simp [Tryz.ntmps21]) fun W I => ?_
 refine F6 (E := 59) (sz := 2) Fo.cells ?_
 repeat' (first
  | exact True.intro | refine AP ?_ | refine two ?_ ?_
  | (refine imp fun hc => ?_) <;> try exact cx hc
  | refine all fun v_ => ?_)
 refine AM (X := Nat × Sl) (fun y => [(0, .d (AO l)), (1, .int most), (5, .val y.2.v), (6, .int y.1)]) (fun y => [AH y.2.v 59 2 Fo.cells (C8 l y.1)]) (fun y => y.1 ≤ l.length ∧ y.1 ≤ most) (fun y => most - y.1) (0, Sl.nil) ⟨Nat.zero_le _, Nat.zero_le _⟩ (VS.take (by exact AD) ?_) ?_
 · exact leD
 rintro ⟨i, q⟩ ⟨h1, h2⟩
 dsimp only at h1 h2 ⊢
 have hml := F2 l i
 by_cases hil : i < l.length
 · by_cases him : i < most
   · have ho := hr l[i] (List.getElem_mem hil)
     have hK := TK GP l[i].kind 4 (by decide) ho.1
     have hW := TK GP l[i].val 12 (by decide) ho.2
     have hC := TK GP l[i].val 120 (by decide) ho.2
     have hb := BE l[i].kind (many := 4) (by decide)
     have et : C8 l (i + 1) = C8 l i ++ [Qq l[i]] := by unfold C8; rw [List.take_succ_eq_append_getElem hil, List.map_append]; rfl
     have hg : Qq l[i] = ⟨1 + pk l[i].kind 4, if 1 + pk l[i].kind 4 = 1 then pk l[i].val 12 else if 1 + pk l[i].kind 4 = 3 then pk l[i].val 120 else 0⟩ := rfl
     by_cases c1 : 1 + pk l[i].kind 4 = 1
     · rw [if_pos c1] at hg
       repeat' (first
        | refine ca CS (hK) ?_
        | refine ca CS (hW) ?_
        | refine ca CS (hC) ?_
        | ((with_reducible apply (BX (f := Fo.cells) (u := ⟨1 + pk l[i].kind 4, pk l[i].val 12⟩))); (focus rfl); (focus rfl); (focus (with_reducible exact ElC.h)); (focus exact BS); (iterate 4 focus rfl); (focus exact Af); (focus exact Af))
        | exact True.intro | refine AG ?_ | refine two ?_ ?_ | refine AF fun c_ => ?_
        | (refine imp fun hc => ?_) <;> try exact cx1 hc
        | refine all fun v_ => ?_)
       refine ⟨(i + 1, v_), ⟨hil, him⟩, by dsimp only; omega, VS.take (by dsimp only; rw [et, hg]; exact AD) ?_⟩
       exact leD
     · by_cases c3 : 1 + pk l[i].kind 4 = 3
       · rw [if_neg c1, if_pos c3] at hg
         repeat' (first
          | refine ca CS (hK) ?_
          | refine ca CS (hW) ?_
          | refine ca CS (hC) ?_
          | ((with_reducible apply (BX (f := Fo.cells) (u := ⟨1 + pk l[i].kind 4, pk l[i].val 120⟩))); (focus rfl); (focus rfl); (focus (with_reducible exact ElC.h)); (focus exact BS); (iterate 4 focus rfl); (focus exact Af); (focus exact Af))
          | exact True.intro | refine AG ?_ | refine two ?_ ?_ | refine AF fun c_ => ?_
          | (refine imp fun hc => ?_) <;> try exact cx1 hc
          | refine all fun v_ => ?_)
         refine ⟨(i + 1, v_), ⟨hil, him⟩, by dsimp only; omega, VS.take (by dsimp only; rw [et, hg]; exact AD) ?_⟩
         exact leD
       · rw [if_neg c1, if_neg c3] at hg
         repeat' (first
          | refine ca CS (hK) ?_
          | refine ca CS (hW) ?_
          | refine ca CS (hC) ?_
          | ((with_reducible apply (BX (f := Fo.cells) (u := ⟨1 + pk l[i].kind 4, 0⟩))); (focus rfl); (focus rfl); (focus (with_reducible exact ElC.h)); (focus exact BS); (iterate 4 focus rfl); (focus exact Af); (focus exact Af))
          | exact True.intro | refine AG ?_ | refine two ?_ ?_ | refine AF fun c_ => ?_
          | (refine imp fun hc => ?_) <;> try exact cx1 hc
          | refine all fun v_ => ?_)
         refine ⟨(i + 1, v_), ⟨hil, him⟩, by dsimp only; omega, VS.take (by dsimp only; rw [et, hg]; exact AD) ?_⟩
         exact leD
   · obtain rfl : i = most := by omega
     repeat' (first
      | exact True.intro | refine AG ?_ | refine two ?_ ?_ | refine AF fun c_ => ?_
      | (refine imp fun hc => ?_) <;> try exact cx1 hc
      | refine all fun v_ => ?_)
     refine AN (VS.take (hc := [AH q.v 59 2 Fo.cells (C8 l i)]) (by exact AD) (Env.le_refl _)) ?_
     ((with_reducible apply rq1); rfl; rfl)
     exact ⟨q, rfl, rfl⟩
 · have et : C8 l i = C8 l most := by unfold C8; rw [List.take_of_length_le (by omega), List.take_of_length_le (by omega)]
   repeat' (first
    | exact True.intro | refine AG ?_ | refine two ?_ ?_ | refine AF fun c_ => ?_
    | (refine imp fun hc => ?_) <;> try exact cx1 hc
    | refine all fun v_ => ?_)
   refine AN (VS.take (hc := [AH q.v 59 2 Fo.cells (C8 l most)]) (by rw [← et]; exact AD) (Env.le_refl _)) ?_
   ((with_reducible apply rq1); rfl; rfl)
   exact ⟨q, rfl, rfl⟩
end Go.Proofs.YtnlfhnbcdfdhgaaGreatDoor
