/- A bundle of this claim's own texts: K1. -/
import Derived.Test.YtniklgkoiaeipaaGreatDoorD2
import Derived.Test.YtniklgkoiaeipaaGreatDoorD3
set_option linter.unusedVariables false
set_option linter.unusedSimpArgs false
set_option maxRecDepth 100000
set_option maxHeartbeats 4000000
namespace Go.Sp
open Go Go.Av
def rawOk (raw : List Fo) : Prop := ∀ o ∈ raw, inI64 o.kind ∧ inI64 o.val
theorem tk_ok {raw : List Fo} (h : rawOk raw) (a : Nat) : inI64 (tk raw a).kind ∧ inI64 (tk raw a).val := by
 unfold tk
 cases e : raw[a]? with
 | none => exact ⟨by unfold inI64; decide, by unfold inI64; decide⟩
 | some o => exact h o (List.mem_of_getElem? e)
end Go.Sp
namespace Go.Proofs.YtniklgkoiaeipaaGreatDoor
open Go Go.Av Go.Sp
theorem cal_picked : Cal Tryz.prog 72 := Cal.of Tryz.func72 (by kernel_rfl) (by kernel_rfl)
theorem cal_Picked : Cal Tryz.prog 30 := Cal.of Tryz.func30 (by kernel_rfl) (by kernel_rfl)
theorem cal_take : Cal Tryz.prog 120 := Cal.of Tryz.func120 (by kernel_rfl) (by kernel_rfl)
theorem cal_gput : Cal Tryz.prog 121 := Cal.of Tryz.func121 (by kernel_rfl) (by kernel_rfl)
theorem cal_number : Cal Tryz.prog 125 := Cal.of Tryz.func125 (by kernel_rfl) (by kernel_rfl)
theorem cal_gtruth : Cal Tryz.prog 124 := Cal.of Tryz.func124 (by kernel_rfl) (by kernel_rfl)
theorem picked (G : List (Nat × List D)) (n many : Int) (h : 0 < many) (hn : inI64 n) : ACr Tryz.prog G 72 [.int n, .int many] (.int (pk n many)) := by
 unfold inI64 at hn
 refine AC_ofV (ts := [4]) Tryz.f72.ntmps Tryz.func72 rfl rfl rfl (by simp [Tryz.ntmps72]) fun W I => ?_
 by_cases h0 : n < 0
 · repeat' (first
    | exact True.intro | refine stpH ?_ | refine two ?_ ?_ | refine allc fun c_ => ?_
    | (refine imp fun hc => ?_) <;> try exact cx1 hc
    | refine all fun v_ => ?_)
   refine retv0 ?_
   ((with_reducible apply rq1); rfl; rfl)
   exact ret_eq (by unfold pk; rw [if_pos h0])
 · repeat' (first
    | exact True.intro | refine stpH ?_ | refine two ?_ ?_ | refine allc fun c_ => ?_
    | (refine imp fun hc => ?_) <;> try exact cx1 hc
    | refine all fun v_ => ?_)
   refine retv0 ?_
   ((with_reducible apply rq1); rfl; rfl)
   exact ret_eq (by unfold pk; rw [if_neg h0])
theorem armXK1_1 {p q : Prop} (hp : p) (h : p → q := by
 apply cmp; (focus (first
  | ((with_reducible apply call0); (focus rfl); (focus exact cal_picked); (focus exact hP); (focus rfl))
  | ((with_reducible apply je_call0); (focus rfl); (focus (decide +kernel)); (focus rfl); (focus exact cal_picked); (focus exact hP); (focus rfl))
  ))
 exact fun h => h) : q := h hp
theorem Picked (G : List (Nat × List D)) (n many : Int) (h : 0 < many) (hn : inI64 n) : ACr Tryz.prog G 30 [.int n, .int many] (.int (pk n many)) := by
 have hP := picked G n many h hn
 refine AC_ofV (ts := [4]) Tryz.f30.ntmps Tryz.func30 rfl rfl rfl (by simp [Tryz.ntmps30]) fun W I => ?_
 repeat' (first
  | refine armXK1_1 ?_
  | exact True.intro | refine stpH ?_ | refine two ?_ ?_ | refine allc fun c_ => ?_
  | (refine imp fun hc => ?_) <;> try exact cx1 hc
  | refine all fun v_ => ?_)
 refine retv0 ?_
 ((with_reducible apply rq1); rfl; rfl)
 exact ret_eq rfl
section
variable (G : List (Nat × List D)) (bg : Nat) (raw : List Fo) (vars props : Int)
theorem take (a : Nat) (t : Int) (q : Value) (ha : a ≤ 1000) : AC Tryz.prog G 120 [.val (.pointer (some ⟨bg, 0, none⟩))] [.cells bg 119 [.d (opsD raw), .int ((a : Nat) : Int), .int vars, .int props, .int (t), .val q]] fun r h => ∃ v : Unit, r = .ret (.agg [.int (tk raw a).kind, .int (tk raw a).val]) ∧ h = [.cells bg 119 [.d (opsD raw), .int ((a + 1 : Nat) : Int), .int vars, .int props, .int (t), .val q]] := by
 refine AC_ofR (rs := [.cell 2 167]) Tryz.f120.ntmps Tryz.func120 rfl rfl rfl (by simp [Tryz.ntmps120]) fun W I => ?_
 by_cases h : a < raw.length
 · have e : tk raw a = raw[a] := by unfold tk; rw [List.getElem?_eq_getElem h]; rfl
   rw [e]
   repeat' (first
    | exact True.intro | refine stpH ?_ | refine two ?_ ?_ | refine allc fun c_ => ?_
    | (refine imp fun hc => ?_) <;> try exact cx1 hc
    | refine all fun v_ => ?_)
   obtain ⟨b1, rfl⟩ : ∃ x, x = v_ := ⟨v_, rfl⟩
   obtain ⟨b2, rfl⟩ : ∃ x, x = v_ := ⟨v_, rfl⟩
   refine retr (VS.take (hc := [.cells bg 119 [.d (opsD raw), .int ((a + 1 : Nat) : Int), .int vars, .int props, .int (t), .val q], .cells b2 167 [.int raw[a].kind, .int raw[a].val]]) (by exact takedD) (Env.le_refl _)) (xs := [.agg [.int raw[a].kind, .int raw[a].val]]) ⟨rv_agg rfl (by (with_reducible exact ElC.h)) rfl (by exact memD) rfl, trivial⟩ rfl (h' := [.cells bg 119 [.d (opsD raw), .int ((a + 1 : Nat) : Int), .int vars, .int props, .int (t), .val q]]) (by exact sublD) ?_
   exact ⟨(), rfl, rfl⟩
 · have e : tk raw a = ⟨0, 0⟩ := by unfold tk; rw [List.getElem?_eq_none (by omega)]; rfl
   rw [e]
   repeat' (first
    | exact True.intro | refine stpH ?_ | refine two ?_ ?_ | refine allc fun c_ => ?_
    | (refine imp fun hc => ?_) <;> try exact cx1 hc
    | refine all fun v_ => ?_)
   obtain ⟨b1, rfl⟩ : ∃ x, x = v_ := ⟨v_, rfl⟩
   obtain ⟨b2, rfl⟩ : ∃ x, x = v_ := ⟨v_, rfl⟩
   refine retr (VS.take (hc := [.cells bg 119 [.d (opsD raw), .int ((a + 1 : Nat) : Int), .int vars, .int props, .int (t), .val q], .cells b2 167 [.int 0, .int 0]]) (by exact takedD) (Env.le_refl _)) (xs := [.agg [.int 0, .int 0]]) ⟨rv_agg rfl (by (with_reducible exact ElC.h)) rfl (by exact memD) rfl, trivial⟩ rfl (h' := [.cells bg 119 [.d (opsD raw), .int ((a + 1 : Nat) : Int), .int vars, .int props, .int (t), .val q]]) (by exact sublD) ?_
   exact ⟨(), rfl, rfl⟩
theorem gput (a : Nat) (t : Int) (q : Sl) (out : List Fo) (k v : Int) (hb : out.length ≤ 100000) : AC Tryz.prog G 121 [.val (.pointer (some ⟨bg, 0, none⟩)), .int k, .int v] [.cells bg 119 [.d (opsD raw), .int ((a : Nat) : Int), .int vars, .int props, .int (t), .val q.v], rowE q.v 62 2 Fo.cells (out)] fun r h => ∃ w : Sl, r = .ret (.tup []) ∧ h = [.cells bg 119 [.d (opsD raw), .int ((a : Nat) : Int), .int vars, .int props, .int (t), .val w.v], rowE w.v 62 2 Fo.cells (out ++ [⟨k, v⟩])] := by
 refine AC_ofV (ts := []) Tryz.f121.ntmps Tryz.func121 rfl rfl rfl (by simp [Tryz.ntmps121]) fun W I => ?_
 repeat' (first
  | ((with_reducible apply (japU1 (f := Fo.cells) (u := ⟨k, v⟩))); (focus rfl); (focus rfl); (focus (with_reducible exact ElC.h)); (focus exact updqD); (focus rfl); (focus rfl); (focus rfl); (focus rfl); (focus exact bndD); (focus exact bndD))
  | exact True.intro | refine stpH ?_ | refine two ?_ ?_ | refine allc fun c_ => ?_
  | (refine imp fun hc => ?_) <;> try exact cx1 hc
  | refine all fun v_ => ?_)
 refine retv (VS.take (hc := [.cells bg 119 [.d (opsD raw), .int ((a : Nat) : Int), .int vars, .int props, .int (t), .val v_.v], rowE v_.v 62 2 Fo.cells (out ++ [⟨k, v⟩])]) (by exact takedD) (Env.le_refl _)) ?_
 exact ⟨v_, rfl, rfl⟩
theorem pkb (n : Int) {many : Int} (h : 0 < many) : 0 ≤ pk n many ∧ pk n many < many := pk_bound n h
def GrT (f : FuncId) (G : List (Nat × List D)) (bg : Nat) (raw : List Fo) (vars props : Int) (t : Int) (d : Int) (a : Nat) (q : Sl) (out x : List Fo) (t' : Int) : Prop :=
 AC Tryz.prog G f [.val (.pointer (some ⟨bg, 0, none⟩)), .int d] [.cells bg 119 [.d (opsD raw), .int ((a : Nat) : Int), .int vars, .int props, .int (t), .val q.v], rowE q.v 62 2 Fo.cells (out)] fun r h => ∃ w : Sl, r = .ret (.tup []) ∧ h = [.cells bg 119 [.d (opsD raw), .int ((a + x.length : Nat) : Int), .int vars, .int props, .int (t'), .val w.v], rowE w.v 62 2 Fo.cells (out ++ x)]
theorem armXK1_2 {p q : Prop} (hp : p) (h : p → q := by
 apply cmp; (focus (first
  | ((with_reducible apply call0); (focus rfl); (focus exact cal_picked); (focus exact picked G (tk raw a).kind 5 (by decide) (tk_ok hr a).1); (focus rfl))
  | ((with_reducible apply je_call0); (focus rfl); (focus (decide +kernel)); (focus rfl); (focus exact cal_picked); (focus exact picked G (tk raw a).kind 5 (by decide) (tk_ok hr a).1); (focus rfl))
  | ((with_reducible apply call0); (focus rfl); (focus exact cal_picked); (focus exact picked G (tk raw a).kind 2 (by decide) (tk_ok hr a).1); (focus rfl))
  | ((with_reducible apply je_call0); (focus rfl); (focus (decide +kernel)); (focus rfl); (focus exact cal_picked); (focus exact picked G (tk raw a).kind 2 (by decide) (tk_ok hr a).1); (focus rfl))
  | ((with_reducible apply call0); (focus rfl); (focus exact cal_picked); (focus exact picked G (tk raw a).val 9 (by decide) (tk_ok hr a).2); (focus rfl))
  | ((with_reducible apply je_call0); (focus rfl); (focus (decide +kernel)); (focus rfl); (focus exact cal_picked); (focus exact picked G (tk raw a).val 9 (by decide) (tk_ok hr a).2); (focus rfl))
  | ((with_reducible apply call0); (focus rfl); (focus exact cal_picked); (focus exact picked G (tk raw a).val vars hv.1 (tk_ok hr a).2); (focus rfl))
  | ((with_reducible apply je_call0); (focus rfl); (focus (decide +kernel)); (focus rfl); (focus exact cal_picked); (focus exact picked G (tk raw a).val vars hv.1 (tk_ok hr a).2); (focus rfl))
  ))
 exact fun h => h) : q := h hp
theorem numLeaf (hr : rawOk raw) (hv : 0 < vars ∧ vars ≤ 1000) (t : Int) (d a : Nat) (q : Sl) (out : List Fo) (ha : a ≤ 400) (ho : out.length ≤ 2000) (hk : numK raw d a < 2) :
 GrT 125 G bg raw vars props t ((d : Int)) (a) q out ([numL raw vars a (numK raw d a)]) t := by
 have h5 := pkb (tk raw a).kind (many := 5) (by decide)
 have h2 := pkb (tk raw a).kind (many := 2) (by decide)
 have h9 := pkb (tk raw a).val (many := 9) (by decide)
 have hb := (numK_bound raw d a).1
 have e : (d = 0 ∧ numK raw d a = pk (tk raw a).kind 2) ∨ (d ≠ 0 ∧ 14 < a + 1 ∧ numK raw d a = pk (tk raw a).kind 2) ∨ (d ≠ 0 ∧ ¬ 14 < a + 1 ∧ numK raw d a = pk (tk raw a).kind 5) := by
  unfold numK
  by_cases c0 : d = 0
  · exact .inl ⟨c0, if_pos (.inl c0)⟩
  · by_cases c1 : 14 < a + 1
    · exact .inr (.inl ⟨c0, c1, if_pos (.inr c1)⟩)
    · exact .inr (.inr ⟨c0, c1, if_neg (fun k => k.elim c0 c1)⟩)
 unfold numL
 unfold GrT
 refine AC_ofV (ts := []) Tryz.f125.ntmps Tryz.func125 rfl rfl rfl (by simp [Tryz.ntmps125]) fun W I => ?_
 by_cases k1 : numK raw d a = 1
 · rw [if_pos ⟨k1, hv.1⟩]
   rcases e with ⟨c0, e⟩ | ⟨c0, c1, e⟩ | ⟨c0, c1, e⟩
   all_goals
    repeat' (first
     | refine armXK1_2 ?_
     | ((with_reducible apply callG); (focus rfl); (focus exact cal_take); (focus exact take G bg raw vars props a t q.v (by omega)); (focus exact takeD); (focus rfl); (focus exact appD))
     | ((with_reducible apply callG); (focus rfl); (focus exact cal_gput); (focus exact gput G bg raw vars props (a + 1) t q out 2 (pk (tk raw a).val vars) (by omega)); (focus exact takeD); (focus rfl); (focus exact appD))
     | exact True.intro | refine stp2 ?_ | refine two ?_ ?_ | refine allc fun c_ => ?_
     | (refine imp fun hc => ?_) <;> try exact cx hc
     | refine all fun v_ => ?_)
    refine ⟨?_⟩
    refine J_region_HB [.cells bg 119 [.d (opsD raw), .int ((a + 1 : Nat) : Int), .int vars, .int props, .int (t), .val q.v], rowE q.v 62 2 Fo.cells (out)] mixed rfl (by (repeat ((with_reducible apply Hd.cons); (focus rfl))); exact Hd.nil) (by (repeat (with_reducible apply len_cons)); exact len_nil) (by decide +kernel) (by exact takeD) ?_
    repeat' (first
     | refine armXK1_2 ?_
     | ((with_reducible apply callG); (focus rfl); (focus exact cal_take); (focus exact take G bg raw vars props a t q.v (by omega)); (focus exact takeD); (focus rfl); (focus exact appD))
     | ((with_reducible apply callG); (focus rfl); (focus exact cal_gput); (focus exact gput G bg raw vars props (a + 1) t q out 2 (pk (tk raw a).val vars) (by omega)); (focus exact takeD); (focus rfl); (focus exact appD))
     | exact True.intro | refine stpH ?_ | refine two ?_ ?_ | refine allc fun c_ => ?_
     | (refine imp fun hc => ?_) <;> try exact cx1 hc
     | refine all fun v_ => ?_)
    refine retv (VS.take (hc := [.cells bg 119 [.d (opsD raw), .int ((a + 1 : Nat) : Int), .int vars, .int props, .int (t), .val v_.v], rowE v_.v 62 2 Fo.cells (out ++ [⟨2, pk (tk raw a).val vars⟩])]) (by exact takedD) (Env.le_refl _)) ?_
    exact ⟨v_, rfl, rfl⟩
 · rw [if_neg (fun k => k1 k.1)]
   rcases e with ⟨c0, e⟩ | ⟨c0, c1, e⟩ | ⟨c0, c1, e⟩
   all_goals
    repeat' (first
     | refine armXK1_2 ?_
     | ((with_reducible apply callG); (focus rfl); (focus exact cal_take); (focus exact take G bg raw vars props a t q.v (by omega)); (focus exact takeD); (focus rfl); (focus exact appD))
     | ((with_reducible apply callG); (focus rfl); (focus exact cal_gput); (focus exact gput G bg raw vars props (a + 1) t q out 1 (pk (tk raw a).val 9 - 4) (by omega)); (focus exact takeD); (focus rfl); (focus exact appD))
     | exact True.intro | refine stpH ?_ | refine two ?_ ?_ | refine allc fun c_ => ?_
     | (refine imp fun hc => ?_) <;> try exact cx1 hc
     | refine all fun v_ => ?_)
    refine retv (VS.take (hc := [.cells bg 119 [.d (opsD raw), .int ((a + 1 : Nat) : Int), .int vars, .int props, .int (t), .val v_.v], rowE v_.v 62 2 Fo.cells (out ++ [⟨1, pk (tk raw a).val 9 - 4⟩])]) (by exact takedD) (Env.le_refl _)) ?_
    exact ⟨v_, rfl, rfl⟩
end
end Go.Proofs.YtniklgkoiaeipaaGreatDoor
