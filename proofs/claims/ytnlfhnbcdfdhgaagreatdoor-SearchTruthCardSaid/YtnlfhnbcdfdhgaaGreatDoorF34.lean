/- A bundle of this claim's own texts: K1 K2. -/
import Derived.Test.YtnlfhnbcdfdhgaaGreatDoorF33
set_option linter.unusedVariables false
set_option linter.unusedSimpArgs false
set_option maxRecDepth 100000
set_option maxHeartbeats 4000000
namespace Go.Sp
open Go Go.Av
def BH (raw : List Fo) : Prop := ∀ o ∈ raw, AX o.kind ∧ AX o.val
theorem B9 {raw : List Fo} (h : BH raw) (a : Nat) : AX (tk raw a).kind ∧ AX (tk raw a).val := by
 unfold tk
 cases e : raw[a]? with
 | none => exact ⟨by unfold AX; decide, by unfold AX; decide⟩
 | some o => exact h o (List.mem_of_getElem? e)
end Go.Sp
namespace Go.Proofs.YtnlfhnbcdfdhgaaGreatDoor
open Go Go.Av Go.Sp
theorem AI : Cal Tryz.prog 50 := Cal.of Tryz.func50 (by kernel_rfl) (by kernel_rfl)
theorem CS : Cal Tryz.prog 23 := Cal.of Tryz.func23 (by kernel_rfl) (by kernel_rfl)
theorem Bs : Cal Tryz.prog 124 := Cal.of Tryz.func124 (by kernel_rfl) (by kernel_rfl)
theorem Bx : Cal Tryz.prog 125 := Cal.of Tryz.func125 (by kernel_rfl) (by kernel_rfl)
theorem Er : Cal Tryz.prog 123 := Cal.of Tryz.func123 (by kernel_rfl) (by kernel_rfl)
theorem Gd : Cal Tryz.prog 122 := Cal.of Tryz.func122 (by kernel_rfl) (by kernel_rfl)
theorem Al (G : List (Nat × List D)) (n many : Int) (h : 0 < many) (hn : AX n) : ACr Tryz.prog G 50 [.int n, .int many] (.int (pk n many)) := by
 unfold AX at hn
 refine AJ (ts := [4]) Tryz.f50.ntmps Tryz.func50 rfl rfl rfl (by simp [Tryz.ntmps50]) fun W I => ?_
 by_cases h0 : n < 0
 · repeat' (first
    | exact True.intro | refine AG ?_ | refine two ?_ ?_ | refine AF fun c_ => ?_
    | (refine imp fun hc => ?_) <;> try exact cx1 hc
    | refine all fun v_ => ?_)
   refine A6 ?_
   ((with_reducible apply rq1); rfl; rfl)
   exact AB (by unfold pk; rw [if_pos h0])
 · repeat' (first
    | exact True.intro | refine AG ?_ | refine two ?_ ?_ | refine AF fun c_ => ?_
    | (refine imp fun hc => ?_) <;> try exact cx1 hc
    | refine all fun v_ => ?_)
   refine A6 ?_
   ((with_reducible apply rq1); rfl; rfl)
   exact AB (by unfold pk; rw [if_neg h0])
theorem TK (G : List (Nat × List D)) (n many : Int) (h : 0 < many) (hn : AX n) : ACr Tryz.prog G 23 [.int n, .int many] (.int (pk n many)) := by
 have hP := Al G n many h hn
 refine AJ (ts := [4]) Tryz.f23.ntmps Tryz.func23 rfl rfl rfl (by simp [Tryz.ntmps23]) fun W I => ?_
 repeat' (first
  | refine ca AI (hP) ?_
  | exact True.intro | refine AG ?_ | refine two ?_ ?_ | refine AF fun c_ => ?_
  | (refine imp fun hc => ?_) <;> try exact cx1 hc
  | refine all fun v_ => ?_)
 refine A6 ?_
 ((with_reducible apply rq1); rfl; rfl)
 exact AB rfl
section
variable (G : List (Nat × List D)) (bg : Nat) (raw : List Fo) (vars props : Int)
theorem take (a : Nat) (t : Int) (q : Value) (ha : a ≤ 1000) : AC Tryz.prog G 124 [.val (.pointer (some ⟨bg, 0, none⟩))] [.cells bg 145 [.d (AO raw), .int ((a : Nat) : Int), .int vars, .int props, .int (t), .val q]] fun r h => ∃ v : Unit, r = .ret (.agg [.int (tk raw a).kind, .int (tk raw a).val]) ∧ h = [.cells bg 145 [.d (AO raw), .int ((a + 1 : Nat) : Int), .int vars, .int props, .int (t), .val q]] := by
 refine Bm (rs := [.cell 2 183]) Tryz.f124.ntmps Tryz.func124 rfl rfl rfl (by simp [Tryz.ntmps124]) fun W I => ?_
 by_cases h : a < raw.length
 · have e : tk raw a = raw[a] := by unfold tk; rw [List.getElem?_eq_getElem h]; rfl
   rw [e]
   repeat' (first
    | exact True.intro | refine AG ?_ | refine two ?_ ?_ | refine AF fun c_ => ?_
    | (refine imp fun hc => ?_) <;> try exact cx1 hc
    | refine all fun v_ => ?_)
   obtain ⟨b1, rfl⟩ : ∃ x, x = v_ := ⟨v_, rfl⟩
   obtain ⟨b2, rfl⟩ : ∃ x, x = v_ := ⟨v_, rfl⟩
   refine HA (VS.take (hc := [.cells bg 145 [.d (AO raw), .int ((a + 1 : Nat) : Int), .int vars, .int props, .int (t), .val q], .cells b2 183 [.int raw[a].kind, .int raw[a].val]]) (by exact AD) (Env.le_refl _)) (xs := [.agg [.int raw[a].kind, .int raw[a].val]]) ⟨Ax rfl (by (with_reducible exact ElC.h)) rfl (by exact Ab) rfl, trivial⟩ rfl (h' := [.cells bg 145 [.d (AO raw), .int ((a + 1 : Nat) : Int), .int vars, .int props, .int (t), .val q]]) (by exact HX) ?_
   exact ⟨(), rfl, rfl⟩
 · have e : tk raw a = ⟨0, 0⟩ := by unfold tk; rw [List.getElem?_eq_none (by omega)]; rfl
   rw [e]
   repeat' (first
    | exact True.intro | refine AG ?_ | refine two ?_ ?_ | refine AF fun c_ => ?_
    | (refine imp fun hc => ?_) <;> try exact cx1 hc
    | refine all fun v_ => ?_)
   obtain ⟨b1, rfl⟩ : ∃ x, x = v_ := ⟨v_, rfl⟩
   obtain ⟨b2, rfl⟩ : ∃ x, x = v_ := ⟨v_, rfl⟩
   refine HA (VS.take (hc := [.cells bg 145 [.d (AO raw), .int ((a + 1 : Nat) : Int), .int vars, .int props, .int (t), .val q], .cells b2 183 [.int 0, .int 0]]) (by exact AD) (Env.le_refl _)) (xs := [.agg [.int 0, .int 0]]) ⟨Ax rfl (by (with_reducible exact ElC.h)) rfl (by exact Ab) rfl, trivial⟩ rfl (h' := [.cells bg 145 [.d (AO raw), .int ((a + 1 : Nat) : Int), .int vars, .int props, .int (t), .val q]]) (by exact HX) ?_
   exact ⟨(), rfl, rfl⟩
theorem Ia (a : Nat) (t : Int) (q : Sl) (out : List Fo) (k v : Int) (hb : out.length ≤ 100000) : AC Tryz.prog G 125 [.val (.pointer (some ⟨bg, 0, none⟩)), .int k, .int v] [.cells bg 145 [.d (AO raw), .int ((a : Nat) : Int), .int vars, .int props, .int (t), .val q.v], AH q.v 137 2 Fo.cells (out)] fun r h => ∃ w : Sl, r = .ret (.tup []) ∧ h = [.cells bg 145 [.d (AO raw), .int ((a : Nat) : Int), .int vars, .int props, .int (t), .val w.v], AH w.v 137 2 Fo.cells (out ++ [⟨k, v⟩])] := by
 refine AJ (ts := []) Tryz.f125.ntmps Tryz.func125 rfl rfl rfl (by simp [Tryz.ntmps125]) fun W I => ?_
 repeat' (first
  | ((with_reducible apply (BX (f := Fo.cells) (u := ⟨k, v⟩))); (focus rfl); (focus rfl); (focus (with_reducible exact ElC.h)); (focus exact BS); (iterate 4 focus rfl); (focus exact Af); (focus exact Af))
  | exact True.intro | refine AG ?_ | refine two ?_ ?_ | refine AF fun c_ => ?_
  | (refine imp fun hc => ?_) <;> try exact cx1 hc
  | refine all fun v_ => ?_)
 refine AN (VS.take (hc := [.cells bg 145 [.d (AO raw), .int ((a : Nat) : Int), .int vars, .int props, .int (t), .val v_.v], AH v_.v 137 2 Fo.cells (out ++ [⟨k, v⟩])]) (by exact AD) (Env.le_refl _)) ?_
 exact ⟨v_, rfl, rfl⟩
theorem pkb (n : Int) {many : Int} (h : 0 < many) : 0 ≤ pk n many ∧ pk n many < many := BE n h
def GrT (f : FuncId) (G : List (Nat × List D)) (bg : Nat) (raw : List Fo) (vars props : Int) (t : Int) (d : Int) (a : Nat) (q : Sl) (out x : List Fo) (t' : Int) : Prop :=
 AC Tryz.prog G f [.val (.pointer (some ⟨bg, 0, none⟩)), .int d] [.cells bg 145 [.d (AO raw), .int ((a : Nat) : Int), .int vars, .int props, .int (t), .val q.v], AH q.v 137 2 Fo.cells (out)] fun r h => ∃ w : Sl, r = .ret (.tup []) ∧ h = [.cells bg 145 [.d (AO raw), .int ((a + x.length : Nat) : Int), .int vars, .int props, .int (t'), .val w.v], AH w.v 137 2 Fo.cells (out ++ x)]
theorem MD {p q : Prop} (hp : p) (h : p → q := by
 apply cmp; (focus (first
  | ((with_reducible apply Dg); (focus rfl); (focus exact AI); (focus exact Al G (tk raw a).kind 5 (by decide) (B9 hr a).1); (focus rfl))
  | ((with_reducible apply Bc); (focus rfl); (focus (decide +kernel)); (focus rfl); (focus exact AI); (focus exact Al G (tk raw a).kind 5 (by decide) (B9 hr a).1); (focus rfl))
  | ((with_reducible apply Dg); (focus rfl); (focus exact AI); (focus exact Al G (tk raw a).kind 2 (by decide) (B9 hr a).1); (focus rfl))
  | ((with_reducible apply Bc); (focus rfl); (focus (decide +kernel)); (focus rfl); (focus exact AI); (focus exact Al G (tk raw a).kind 2 (by decide) (B9 hr a).1); (focus rfl))
  | ((with_reducible apply Dg); (focus rfl); (focus exact AI); (focus exact Al G (tk raw a).val 9 (by decide) (B9 hr a).2); (focus rfl))
  | ((with_reducible apply Bc); (focus rfl); (focus (decide +kernel)); (focus rfl); (focus exact AI); (focus exact Al G (tk raw a).val 9 (by decide) (B9 hr a).2); (focus rfl))
  ))
 exact fun h => h) : q := h hp
theorem UT (hr : BH raw) (hv : 0 < vars ∧ vars ≤ 1000) (t : Int) (d a : Nat) (q : Sl) (out : List Fo) (ha : a ≤ 400) (ho : out.length ≤ 2000) (hk : EG raw d a < 2) :
 GrT 123 G bg raw vars props t ((d : Int)) (a) q out ([QT raw vars a (EG raw d a)]) t := by
 have h5 := pkb (tk raw a).kind (many := 5) (by decide)
 have h2 := pkb (tk raw a).kind (many := 2) (by decide)
 have h9 := pkb (tk raw a).val (many := 9) (by decide)
 have hb := (Ge raw d a).1
 have e : (d = 0 ∧ EG raw d a = pk (tk raw a).kind 2) ∨ (d ≠ 0 ∧ 14 < a + 1 ∧ EG raw d a = pk (tk raw a).kind 2) ∨ (d ≠ 0 ∧ ¬ 14 < a + 1 ∧ EG raw d a = pk (tk raw a).kind 5) := by
  unfold EG
  by_cases c0 : d = 0
  · exact .inl ⟨c0, if_pos (.inl c0)⟩
  · by_cases c1 : 14 < a + 1
    · exact .inr (.inl ⟨c0, c1, if_pos (.inr c1)⟩)
    · exact .inr (.inr ⟨c0, c1, if_neg (fun k => k.elim c0 c1)⟩)
 unfold QT
 unfold GrT
 refine AJ (ts := []) Tryz.f123.ntmps Tryz.func123 rfl rfl rfl (by simp [Tryz.ntmps123]) fun W I => ?_
 by_cases k1 : EG raw d a = 1
 · rw [if_pos ⟨k1, hv.1⟩]
   rcases e with ⟨c0, e⟩ | ⟨c0, c1, e⟩ | ⟨c0, c1, e⟩
   all_goals
    repeat' (first
     | refine MD ?_
     | refine ca AI (Al G (tk raw a).val vars hv.1 (B9 hr a).2) ?_
     | ((with_reducible apply As); (focus rfl); (focus exact Bs); (focus exact take G bg raw vars props a t q.v (by omega)); (focus exact AW); (focus rfl); (focus exact BO))
     | ((with_reducible apply As); (focus rfl); (focus exact Bx); (focus exact Ia G bg raw vars props (a + 1) t q out 2 (pk (tk raw a).val vars) (by omega)); (focus exact AW); (focus rfl); (focus exact BO))
     | exact True.intro | refine Hz ?_ | refine two ?_ ?_ | refine AF fun c_ => ?_
     | (refine imp fun hc => ?_) <;> try exact cx hc
     | refine all fun v_ => ?_)
    refine ⟨?_⟩
    refine Bn [.cells bg 145 [.d (AO raw), .int ((a + 1 : Nat) : Int), .int vars, .int props, .int (t), .val q.v], AH q.v 137 2 Fo.cells (out)] mixed rfl (by (repeat ((with_reducible apply Hd.cons); (focus rfl))); exact Hd.nil) (by (repeat (with_reducible apply AU)); exact len_nil) (by decide +kernel) (by exact AW) ?_
    repeat' (first
     | refine MD ?_
     | refine ca AI (Al G (tk raw a).val vars hv.1 (B9 hr a).2) ?_
     | ((with_reducible apply As); (focus rfl); (focus exact Bs); (focus exact take G bg raw vars props a t q.v (by omega)); (focus exact AW); (focus rfl); (focus exact BO))
     | ((with_reducible apply As); (focus rfl); (focus exact Bx); (focus exact Ia G bg raw vars props (a + 1) t q out 2 (pk (tk raw a).val vars) (by omega)); (focus exact AW); (focus rfl); (focus exact BO))
     | exact True.intro | refine AG ?_ | refine two ?_ ?_ | refine AF fun c_ => ?_
     | (refine imp fun hc => ?_) <;> try exact cx1 hc
     | refine all fun v_ => ?_)
    refine AN (VS.take (hc := [.cells bg 145 [.d (AO raw), .int ((a + 1 : Nat) : Int), .int vars, .int props, .int (t), .val v_.v], AH v_.v 137 2 Fo.cells (out ++ [⟨2, pk (tk raw a).val vars⟩])]) (by exact AD) (Env.le_refl _)) ?_
    exact ⟨v_, rfl, rfl⟩
 · rw [if_neg (fun k => k1 k.1)]
   rcases e with ⟨c0, e⟩ | ⟨c0, c1, e⟩ | ⟨c0, c1, e⟩
   all_goals
    repeat' (first
     | refine MD ?_
     | refine ca AI (Al G (tk raw a).val vars hv.1 (B9 hr a).2) ?_
     | ((with_reducible apply As); (focus rfl); (focus exact Bs); (focus exact take G bg raw vars props a t q.v (by omega)); (focus exact AW); (focus rfl); (focus exact BO))
     | ((with_reducible apply As); (focus rfl); (focus exact Bx); (focus exact Ia G bg raw vars props (a + 1) t q out 1 (pk (tk raw a).val 9 - 4) (by omega)); (focus exact AW); (focus rfl); (focus exact BO))
     | exact True.intro | refine AG ?_ | refine two ?_ ?_ | refine AF fun c_ => ?_
     | (refine imp fun hc => ?_) <;> try exact cx1 hc
     | refine all fun v_ => ?_)
    refine AN (VS.take (hc := [.cells bg 145 [.d (AO raw), .int ((a + 1 : Nat) : Int), .int vars, .int props, .int (t), .val v_.v], AH v_.v 137 2 Fo.cells (out ++ [⟨1, pk (tk raw a).val 9 - 4⟩])]) (by exact AD) (Env.le_refl _)) ?_
    exact ⟨v_, rfl, rfl⟩
end
section
variable (G : List (Nat × List D)) (bg : Nat) (raw : List Fo) (vars props : Int)
theorem Vb {α : Type} (out : List α) (o : α) (x y : List α) : out ++ [o] ++ x ++ y = out ++ o :: (x ++ y) := by simp
theorem dX {α : Type} (out : List α) (o : α) (x : List α) : out ++ [o] ++ x = out ++ o :: x := by simp
theorem WT {α : Type} (a : Nat) (o : α) (x y : List α) : a + 1 + x.length + y.length = a + (o :: (x ++ y)).length := by simp; omega
theorem dA {α : Type} (a : Nat) (o : α) (x : List α) : a + 1 + x.length = a + (o :: x).length := by simp; omega
theorem W9 {p q : Prop} (hp : p) (h : p → q := by
 apply cmp; (focus (first
  | ((with_reducible apply Dg); (focus rfl); (focus exact AI); (focus exact Al G (tk raw a).kind 5 (by decide) (B9 hr a).1); (focus rfl))
  | ((with_reducible apply Bc); (focus rfl); (focus (decide +kernel)); (focus rfl); (focus exact AI); (focus exact Al G (tk raw a).kind 5 (by decide) (B9 hr a).1); (focus rfl))
  | ((with_reducible apply Dg); (focus rfl); (focus exact AI); (focus exact Al G (tk raw a).kind 2 (by decide) (B9 hr a).1); (focus rfl))
  | ((with_reducible apply Bc); (focus rfl); (focus (decide +kernel)); (focus rfl); (focus exact AI); (focus exact Al G (tk raw a).kind 2 (by decide) (B9 hr a).1); (focus rfl))
  | ((with_reducible apply Dg); (focus rfl); (focus exact AI); (focus exact Al G (tk raw a).val 9 (by decide) (B9 hr a).2); (focus rfl))
  | ((with_reducible apply Bc); (focus rfl); (focus (decide +kernel)); (focus rfl); (focus exact AI); (focus exact Al G (tk raw a).val 9 (by decide) (B9 hr a).2); (focus rfl))
  ))
 exact fun h => h) : q := h hp
theorem bI (hr : BH raw) (hv : 0 < vars ∧ vars ≤ 1000) (t : Int) (d a : Nat) (hd : d ≤ 100) (x y : List Fo) (q : Sl) (out : List Fo) (ha : a ≤ 400) (ho : out.length + x.length ≤ 1999) (hk : 2 ≤ EG raw (d + 1) a)
 (ihx : ∀ (q : Sl) (out' : List Fo), out'.length ≤ out.length + 1 → GrT 123 G bg raw vars props t (((d + 1 : Nat) : Int) - 1) (a + 1) q out' x t)
 (ihy : ∀ (q : Sl) (out' : List Fo), out'.length ≤ out.length + 1 + x.length → GrT 123 G bg raw vars props t (((d + 1 : Nat) : Int) - 1) (a + 1 + x.length) q out' y t) :
 GrT 123 G bg raw vars props t (((d + 1 : Nat) : Int)) (a) q out (⟨EG raw (d + 1) a + 1, 0⟩ :: (x ++ y)) t := by
 have h5 := pkb (tk raw a).kind (many := 5) (by decide)
 have h2 := pkb (tk raw a).kind (many := 2) (by decide)
 have hb := Ge raw (d + 1) a
 have c1 : ¬ 14 < a + 1 := fun c => by
  have : EG raw (d + 1) a = pk (tk raw a).kind 2 := if_pos (.inr c)
  omega
 have e : EG raw (d + 1) a = pk (tk raw a).kind 5 := if_neg (fun k => k.elim (by omega) c1)
 have e2 : (⟨EG raw (d + 1) a + 1, 0⟩ : Fo) = ⟨3 + pk (tk raw a).kind 5 - 2, 0⟩ := by rw [e]; congr 1; omega
 rw [e2]
 have l1 : ∀ o : Fo, (out ++ [o]).length = out.length + 1 := fun o => by simp
 have l2 : ∀ o : Fo, (out ++ [o] ++ x).length = out.length + 1 + x.length := fun o => by simp; omega
 unfold GrT
 refine AJ (ts := []) Tryz.f123.ntmps Tryz.func123 rfl rfl rfl (by simp [Tryz.ntmps123]) fun W I => ?_
 repeat' (first
  | refine W9 ?_
  | refine ca AI (Al G (tk raw a).val vars hv.1 (B9 hr a).2) ?_
  | ((with_reducible apply As); (focus rfl); (focus exact Bs); (focus exact take G bg raw vars props a t q.v (by omega)); (focus exact AW); (focus rfl); (focus exact BO))
  | ((with_reducible apply As); (focus rfl); (focus exact Bx); (focus exact Ia G bg raw vars props (a + 1) t q out (3 + pk (tk raw a).kind 5 - 2) 0 (by omega)); (focus exact AW); (focus rfl); (focus exact BO))
  | exact True.intro | refine AG ?_ | refine two ?_ ?_ | refine AF fun c_ => ?_
  | (refine imp fun hc => ?_) <;> try exact cx1 hc
  | refine all fun v_ => ?_)
 obtain ⟨q1, rfl⟩ : ∃ x, x = v_ := ⟨v_, rfl⟩
 repeat' (first
  | refine cag Er (ihx q1 _ (Nat.le_of_eq (l1 ⟨3 + pk (tk raw a).kind 5 - 2, 0⟩))) ?_
  | exact True.intro | refine AG ?_ | refine two ?_ ?_ | refine AF fun c_ => ?_
  | (refine imp fun hc => ?_) <;> try exact cx1 hc
  | refine all fun v_ => ?_)
 obtain ⟨q2, rfl⟩ : ∃ x, x = v_ := ⟨v_, rfl⟩
 repeat' (first
  | refine cag Er (ihy q2 _ (Nat.le_of_eq (l2 ⟨3 + pk (tk raw a).kind 5 - 2, 0⟩))) ?_
  | exact True.intro | refine AG ?_ | refine two ?_ ?_ | refine AF fun c_ => ?_
  | (refine imp fun hc => ?_) <;> try exact cx1 hc
  | refine all fun v_ => ?_)
 refine AN (VS.take (hc := [.cells bg 145 [.d (AO raw), .int ((a + 1 + x.length + y.length : Nat) : Int), .int vars, .int props, .int (t), .val v_.v], AH v_.v 137 2 Fo.cells (out ++ [⟨3 + pk (tk raw a).kind 5 - 2, 0⟩] ++ x ++ y)]) (by exact AD) (Env.le_refl _)) ?_
 exact ⟨v_, rfl, by rw [Vb, WT a ⟨3 + pk (tk raw a).kind 5 - 2, 0⟩]⟩
theorem number (hr : BH raw) (hv : 0 < vars ∧ vars ≤ 1000) (t : Int) : ∀ (d a : Nat) (q : Sl) (out : List Fo), a + 2 ^ (d + 1) ≤ 400 → out.length + 2 ^ (d + 1) ≤ 2000 → GrT 123 G bg raw vars props t ((d : Int)) (a) q out (Bb raw vars d a) t
 | 0, a, q, out, ha, ho => UT G bg raw vars props hr hv t 0 a q out (by omega) (by omega) ((Ge raw 0 a).2.2 rfl)
 | d + 1, a, q, out, ha, ho => by
   have e : 2 ^ (d + 1 + 1) = 2 * 2 ^ (d + 1) := by rw [Nat.pow_succ]; omega
   have hp : 0 < 2 ^ (d + 1) := Nat.two_pow_pos (d + 1)
   have hx := HW raw vars d (a + 1)
   have hc : ((d + 1 : Nat) : Int) - 1 = (d : Int) := by omega
   by_cases hk : EG raw (d + 1) a < 2
   · rw [Bb, if_pos hk]
     exact UT G bg raw vars props hr hv t (d + 1) a q out (by omega) (by omega) hk
   · rw [Bb, if_neg hk]
     refine bI G bg raw vars props hr hv t d a (by have := @Nat.lt_two_pow_self d; omega) _ _ q out (by omega) (by omega) (by omega) (fun q' out' ho' => ?_) (fun q' out' ho' => ?_)
     · rw [hc]
       exact number hr hv t d (a + 1) q' out' (by omega) (by omega)
     · rw [hc]
       exact number hr hv t d _ q' out' (by omega) (by omega)
end
end Go.Proofs.YtnlfhnbcdfdhgaaGreatDoor
