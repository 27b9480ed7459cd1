/- A bundle of this claim's own texts: K4. -/
import Derived.Test.YtniklgkoiaeipaaGreatDoorD2
import Derived.Test.YtniklgkoiaeipaaGreatDoorD5
set_option linter.unusedVariables false
set_option linter.unusedSimpArgs false
set_option maxRecDepth 100000
set_option maxHeartbeats 4000000
namespace Go.Sp
open Go Go.Av
def forB (raw : List Fo) (d a : Nat) : Int := if d = 0 ∨ 12 < a + 1 then pk (tk raw a).kind 4 else pk (tk raw a).kind 16
theorem forK_B (raw : List Fo) (d a t : Nat) : forK raw d a t = if 8 < forB raw d a ∧ t = 0 then 4 + forB raw d a % 5 else forB raw d a := rfl
theorem forB_bound (raw : List Fo) (d a : Nat) : 0 ≤ forB raw d a ∧ forB raw d a < 16 ∧ (d = 0 ∨ 12 < a + 1 → forB raw d a < 4) := by
 have h2 := pk_bound (tk raw a).kind (many := 4) (by decide)
 have h5 := pk_bound (tk raw a).kind (many := 16) (by decide)
 unfold forB
 split
 · exact ⟨h2.1, by omega, fun _ => h2.2⟩
 · rename_i c; exact ⟨h5.1, h5.2, fun c' => absurd c' c⟩
theorem forK_cases (raw : List Fo) (d a t : Nat) : (¬ (8 < forB raw d a ∧ t = 0) ∧ forK raw d a t = forB raw d a) ∨ ((8 < forB raw d a ∧ t = 0) ∧ forK raw d a t = 4 + forB raw d a % 5) := by
 rw [forK_B]
 by_cases c : 8 < forB raw d a ∧ t = 0
 · exact .inr ⟨c, if_pos c⟩
 · exact .inl ⟨c, if_neg c⟩
end Go.Sp
namespace Go.Proofs.YtniklgkoiaeipaaGreatDoor
open Go Go.Av Go.Sp
theorem cal_formula : Cal Tryz.prog 67 := Cal.of Tryz.func67 (by kernel_rfl) (by kernel_rfl)
section
variable (G : List (Nat × List D)) (bg : Nat) (raw : List Fo) (vars props : Int)
theorem forSel (hr : rawOk raw) (d a : Nat) : ∃ n16 n4 : Int, (ACr Tryz.prog G 72 [.int (tk raw a).kind, .int 16] (.int n16) ∧ ACr Tryz.prog G 72 [.int (tk raw a).kind, .int 4] (.int n4)) ∧ ((d = 0 ∧ n4 = forB raw d a) ∨ (d ≠ 0 ∧ 12 < a + 1 ∧ n4 = forB raw d a) ∨ (d ≠ 0 ∧ ¬ 12 < a + 1 ∧ n16 = forB raw d a)) := by
 refine ⟨_, _, ⟨picked G _ 16 (by decide) (tk_ok hr a).1, picked G _ 4 (by decide) (tk_ok hr a).1⟩, ?_⟩
 unfold forB
 by_cases c0 : d = 0
 · exact .inl ⟨c0, (if_pos (.inl c0)).symm⟩
 · by_cases c1 : 12 < a + 1
   · exact .inr (.inl ⟨c0, c1, (if_pos (.inr c1)).symm⟩)
   · exact .inr (.inr ⟨c0, c1, (if_neg (fun k => k.elim c0 c1)).symm⟩)
theorem armXK4_1 {p q : Prop} (hp : p) (h : p → q := by
 apply cmp; (focus (first
  | ((with_reducible apply call0); (focus rfl); (focus exact cal_picked); (focus exact p16); (focus rfl))
  | ((with_reducible apply je_call0); (focus rfl); (focus (decide +kernel)); (focus rfl); (focus exact cal_picked); (focus exact p16); (focus rfl))
  | ((with_reducible apply call0); (focus rfl); (focus exact cal_picked); (focus exact p4); (focus rfl))
  | ((with_reducible apply je_call0); (focus rfl); (focus (decide +kernel)); (focus rfl); (focus exact cal_picked); (focus exact p4); (focus rfl))
  | ((with_reducible apply call0); (focus rfl); (focus exact cal_picked); (focus exact picked G (tk raw a).val props hp.1 (tk_ok hr a).2); (focus rfl))
  | ((with_reducible apply je_call0); (focus rfl); (focus (decide +kernel)); (focus rfl); (focus exact cal_picked); (focus exact picked G (tk raw a).val props hp.1 (tk_ok hr a).2); (focus rfl))
  ))
 exact fun h => h) : q := h hp
theorem forLeaf (hr : rawOk raw) (hp : 0 < props ∧ props ≤ 1000) (d a t : Nat) (q : Sl) (out : List Fo) (ht : t ≤ 100) (ha : a ≤ 400) (ho : out.length ≤ 2000) (hk : forB raw d a < 4) : GrT 67 G bg raw vars props (t) (d) (a) q out [forL raw props a] (t) := by
 have hb := forB_bound raw d a
 obtain ⟨n16, n4, ⟨p16, p4⟩, e⟩ := forSel G raw hr d a
 unfold forL
 unfold GrT
 refine AC_ofV (ts := []) Tryz.f67.ntmps Tryz.func67 rfl rfl rfl (by simp [Tryz.ntmps67]) fun W I => ?_
 rcases e with ⟨c0, rfl⟩ | ⟨c0, c1, rfl⟩ | ⟨c0, c1, rfl⟩
 all_goals
  repeat' (first
   | refine armXK4_1 ?_
   | ((with_reducible apply callG); (focus rfl); (focus exact cal_take); (focus exact take G bg raw vars props a t q.v (by omega)); (focus exact takeD); (focus rfl); (focus exact appD))
   | ((with_reducible apply callG); (focus rfl); (focus exact cal_gput); (focus exact gput G bg raw vars props (a + 1) t q out 13 (pk (tk raw a).val props) (by omega)); (focus exact takeD); (focus rfl); (focus exact appD))
   | exact True.intro | refine stp2 ?_ | refine two ?_ ?_ | refine allc fun c_ => ?_
   | (refine imp fun hc => ?_) <;> try exact cx hc
   | refine all fun v_ => ?_)
  refine ⟨?_⟩
  refine J_region_HB [.cells bg 119 [.d (opsD raw), .int ((a + 1 : Nat) : Int), .int vars, .int props, .int (t), .val q.v], rowE q.v 62 2 Fo.cells (out)] mixed rfl (by (repeat ((with_reducible apply Hd.cons); (focus rfl))); exact Hd.nil) (by (repeat (with_reducible apply len_cons)); exact len_nil) (by decide +kernel) (by exact takeD) ?_
  repeat' (first
   | refine armXK4_1 ?_
   | ((with_reducible apply callG); (focus rfl); (focus exact cal_take); (focus exact take G bg raw vars props a t q.v (by omega)); (focus exact takeD); (focus rfl); (focus exact appD))
   | ((with_reducible apply callG); (focus rfl); (focus exact cal_gput); (focus exact gput G bg raw vars props (a + 1) t q out 13 (pk (tk raw a).val props) (by omega)); (focus exact takeD); (focus rfl); (focus exact appD))
   | exact True.intro | refine stpH ?_ | refine two ?_ ?_ | refine allc fun c_ => ?_
   | (refine imp fun hc => ?_) <;> try exact cx1 hc
   | refine all fun v_ => ?_)
  refine retv (VS.take (hc := [.cells bg 119 [.d (opsD raw), .int ((a + 1 : Nat) : Int), .int vars, .int props, .int (t), .val v_.v], rowE v_.v 62 2 Fo.cells (out ++ [⟨13, pk (tk raw a).val props⟩])]) (by exact takedD) (Env.le_refl _)) ?_
  exact ⟨v_, rfl, rfl⟩
theorem forNode (hr : rawOk raw) (d a : Nat) (hk : 4 ≤ forB raw (d + 1) a) : ∃ n4 : Int, (ACr Tryz.prog G 72 [.int (tk raw a).kind, .int 16] (.int (forB raw (d + 1) a)) ∧ ACr Tryz.prog G 72 [.int (tk raw a).kind, .int 4] (.int n4)) ∧ ¬ 12 < a + 1 := by
 have hb := forB_bound raw (d + 1) a
 obtain ⟨n16, n4, ⟨p16, p4⟩, e⟩ := forSel G raw hr (d + 1) a
 rcases e with ⟨c0, _⟩ | ⟨c0, c1, _⟩ | ⟨c0, c1, rfl⟩
 · omega
 · have := hb.2.2 (.inr c1); omega
 · exact ⟨n4, ⟨p16, p4⟩, c1⟩
theorem forNot (hr : rawOk raw) (hp : 0 < props ∧ props ≤ 1000) (d a t : Nat) (t' : Int) (hd : d ≤ 100) (ht : t ≤ 100) (x : List Fo) (q : Sl) (out : List Fo) (ha : a ≤ 400) (ho : out.length ≤ 2000) (hk : 4 ≤ forK raw (d + 1) a t ∧ forK raw (d + 1) a t < 6)
 (ihx : ∀ (q : Sl) (out' : List Fo), out'.length ≤ out.length + 1 → GrT 67 G bg raw vars props (t) (((d + 1 : Nat) : Int) - 1) (a + 1) q out' x (t')) :
 GrT 67 G bg raw vars props (t) (((d + 1 : Nat) : Int)) (a) q out (⟨10, 0⟩ :: x) (t') := by
 have hb := forB_bound raw (d + 1) a
 have hB4 : 4 ≤ forB raw (d + 1) a := by rcases forK_cases raw (d + 1) a t with ⟨_, e⟩ | ⟨_, e⟩ <;> omega
 obtain ⟨n4, ⟨p16, p4⟩, c1⟩ := forNode G raw hr d a hB4
 have hcs := forK_cases raw (d + 1) a t
 have l1 : ∀ o : Fo, (out ++ [o]).length = out.length + 1 := fun o => by simp
 have N1 := fun q1 => ihx q1 (out ++ [⟨10, 0⟩]) (Nat.le_of_eq (l1 _))
 unfold GrT
 refine AC_ofV (ts := []) Tryz.f67.ntmps Tryz.func67 rfl rfl rfl (by simp [Tryz.ntmps67]) fun W I => ?_
 rcases hcs with ⟨c2, e⟩ | ⟨c2, e⟩
 all_goals
  repeat' (first
   | refine armXK4_1 ?_
   | ((with_reducible apply callG); (focus rfl); (focus exact cal_take); (focus exact take G bg raw vars props a t q.v (by omega)); (focus exact takeD); (focus rfl); (focus exact appD))
   | ((with_reducible apply callG); (focus rfl); (focus exact cal_gput); (focus exact gput G bg raw vars props (a + 1) t q out 10 0 (by omega)); (focus exact takeD); (focus rfl); (focus exact appD))
   | exact True.intro | refine stpH ?_ | refine two ?_ ?_ | refine allc fun c_ => ?_
   | (refine imp fun hc => ?_) <;> try exact cx1 hc
   | refine all fun v_ => ?_)
  obtain ⟨q1, rfl⟩ : ∃ x, x = v_ := ⟨v_, rfl⟩
  repeat' (first
   | ((with_reducible apply callG); (focus rfl); (focus exact cal_formula); (focus exact N1 q1); (focus exact takeD); (focus rfl); (focus exact appD))
   | exact True.intro | refine stpH ?_ | refine two ?_ ?_ | refine allc fun c_ => ?_
   | (refine imp fun hc => ?_) <;> try exact cx1 hc
   | refine all fun v_ => ?_)
  refine retv (VS.take (hc := [.cells bg 119 [.d (opsD raw), .int ((a + 1 + x.length : Nat) : Int), .int vars, .int props, .int (t'), .val v_.v], rowE v_.v 62 2 Fo.cells (out ++ [⟨10, 0⟩] ++ x)]) (by exact takedD) (Env.le_refl _)) ?_
  exact ⟨v_, rfl, by rw [app1, len1 a ⟨10, 0⟩]⟩
theorem forTwo (hr : rawOk raw) (hp : 0 < props ∧ props ≤ 1000) (d a t : Nat) (t1 t2 : Int) (hd : d ≤ 100) (ht : t ≤ 100) (x y : List Fo) (q : Sl) (out : List Fo) (ha : a ≤ 400) (ho : out.length ≤ 2000) (hk : 6 ≤ forK raw (d + 1) a t ∧ forK raw (d + 1) a t < 9)
 (ihx : ∀ (q : Sl) (out' : List Fo), out'.length ≤ out.length + 1 → GrT 67 G bg raw vars props (t) (((d + 1 : Nat) : Int) - 1) (a + 1) q out' x (t1))
 (ihy : ∀ (q : Sl) (out' : List Fo), out'.length ≤ out.length + 1 + x.length → GrT 67 G bg raw vars props (t1) (((d + 1 : Nat) : Int) - 1) (a + 1 + x.length) q out' y (t2)) :
 GrT 67 G bg raw vars props (t) (((d + 1 : Nat) : Int)) (a) q out (⟨8 + forK raw (d + 1) a t % 2, 0⟩ :: (x ++ y)) (t2) := by
 have hb := forB_bound raw (d + 1) a
 have hB4 : 4 ≤ forB raw (d + 1) a := by rcases forK_cases raw (d + 1) a t with ⟨_, e⟩ | ⟨_, e⟩ <;> omega
 obtain ⟨n4, ⟨p16, p4⟩, c1⟩ := forNode G raw hr d a hB4
 have hcs := forK_cases raw (d + 1) a t
 have l1 : ∀ o : Fo, (out ++ [o]).length = out.length + 1 := fun o => by simp
 have l2 : ∀ o : Fo, (out ++ [o] ++ x).length = out.length + 1 + x.length := fun o => by simp; omega
 have N1 := fun o q1 => ihx q1 (out ++ [o]) (Nat.le_of_eq (l1 o))
 have N2 := fun o q1 => ihy q1 (out ++ [o] ++ x) (Nat.le_of_eq (l2 o))
 rcases hcs with ⟨c2, e⟩ | ⟨c2, e⟩
 · rw [e] at hk ⊢
   replace N1 := N1 ⟨8 + forB raw (d + 1) a % 2, 0⟩
   replace N2 := N2 ⟨8 + forB raw (d + 1) a % 2, 0⟩
   unfold GrT
   refine AC_ofV (ts := []) Tryz.f67.ntmps Tryz.func67 rfl rfl rfl (by simp [Tryz.ntmps67]) fun W I => ?_
   repeat' (first
    | refine armXK4_1 ?_
    | ((with_reducible apply callG); (focus rfl); (focus exact cal_take); (focus exact take G bg raw vars props a t q.v (by omega)); (focus exact takeD); (focus rfl); (focus exact appD))
    | ((with_reducible apply callG); (focus rfl); (focus exact cal_gput); (focus exact gput G bg raw vars props (a + 1) t q out (8 + forB raw (d + 1) a % 2) 0 (by omega)); (focus exact takeD); (focus rfl); (focus exact appD))
    | exact True.intro | refine stpH ?_ | refine two ?_ ?_ | refine allc fun c_ => ?_
    | (refine imp fun hc => ?_) <;> try exact cx1 hc
    | refine all fun v_ => ?_)
   obtain ⟨q1, rfl⟩ : ∃ x, x = v_ := ⟨v_, rfl⟩
   repeat' (first
    | ((with_reducible apply callG); (focus rfl); (focus exact cal_formula); (focus exact N1 q1); (focus exact takeD); (focus rfl); (focus exact appD))
    | exact True.intro | refine stpH ?_ | refine two ?_ ?_ | refine allc fun c_ => ?_
    | (refine imp fun hc => ?_) <;> try exact cx1 hc
    | refine all fun v_ => ?_)
   obtain ⟨q2, rfl⟩ : ∃ x, x = v_ := ⟨v_, rfl⟩
   repeat' (first
    | ((with_reducible apply callG); (focus rfl); (focus exact cal_formula); (focus exact N2 q2); (focus exact takeD); (focus rfl); (focus exact appD))
    | exact True.intro | refine stpH ?_ | refine two ?_ ?_ | refine allc fun c_ => ?_
    | (refine imp fun hc => ?_) <;> try exact cx1 hc
    | refine all fun v_ => ?_)
   refine retv (VS.take (hc := [.cells bg 119 [.d (opsD raw), .int ((a + 1 + x.length + y.length : Nat) : Int), .int vars, .int props, .int (t2), .val v_.v], rowE v_.v 62 2 Fo.cells (out ++ [⟨8 + forB raw (d + 1) a % 2, 0⟩] ++ x ++ y)]) (by exact takedD) (Env.le_refl _)) ?_
   exact ⟨v_, rfl, by rw [app2, len2 a ⟨8 + forB raw (d + 1) a % 2, 0⟩]⟩
 · rw [e] at hk ⊢
   replace N1 := N1 ⟨8 + (4 + forB raw (d + 1) a % 5) % 2, 0⟩
   replace N2 := N2 ⟨8 + (4 + forB raw (d + 1) a % 5) % 2, 0⟩
   unfold GrT
   refine AC_ofV (ts := []) Tryz.f67.ntmps Tryz.func67 rfl rfl rfl (by simp [Tryz.ntmps67]) fun W I => ?_
   repeat' (first
    | refine armXK4_1 ?_
    | ((with_reducible apply callG); (focus rfl); (focus exact cal_take); (focus exact take G bg raw vars props a t q.v (by omega)); (focus exact takeD); (focus rfl); (focus exact appD))
    | ((with_reducible apply callG); (focus rfl); (focus exact cal_gput); (focus exact gput G bg raw vars props (a + 1) t q out (8 + (4 + forB raw (d + 1) a % 5) % 2) 0 (by omega)); (focus exact takeD); (focus rfl); (focus exact appD))
    | exact True.intro | refine stpH ?_ | refine two ?_ ?_ | refine allc fun c_ => ?_
    | (refine imp fun hc => ?_) <;> try exact cx1 hc
    | refine all fun v_ => ?_)
   obtain ⟨q1, rfl⟩ : ∃ x, x = v_ := ⟨v_, rfl⟩
   repeat' (first
    | ((with_reducible apply callG); (focus rfl); (focus exact cal_formula); (focus exact N1 q1); (focus exact takeD); (focus rfl); (focus exact appD))
    | exact True.intro | refine stpH ?_ | refine two ?_ ?_ | refine allc fun c_ => ?_
    | (refine imp fun hc => ?_) <;> try exact cx1 hc
    | refine all fun v_ => ?_)
   obtain ⟨q2, rfl⟩ : ∃ x, x = v_ := ⟨v_, rfl⟩
   repeat' (first
    | ((with_reducible apply callG); (focus rfl); (focus exact cal_formula); (focus exact N2 q2); (focus exact takeD); (focus rfl); (focus exact appD))
    | exact True.intro | refine stpH ?_ | refine two ?_ ?_ | refine allc fun c_ => ?_
    | (refine imp fun hc => ?_) <;> try exact cx1 hc
    | refine all fun v_ => ?_)
   refine retv (VS.take (hc := [.cells bg 119 [.d (opsD raw), .int ((a + 1 + x.length + y.length : Nat) : Int), .int vars, .int props, .int (t2), .val v_.v], rowE v_.v 62 2 Fo.cells (out ++ [⟨8 + (4 + forB raw (d + 1) a % 5) % 2, 0⟩] ++ x ++ y)]) (by exact takedD) (Env.le_refl _)) ?_
   exact ⟨v_, rfl, by rw [app2, len2 a ⟨8 + (4 + forB raw (d + 1) a % 5) % 2, 0⟩]⟩
theorem forOne (hr : rawOk raw) (hp : 0 < props ∧ props ≤ 1000) (d a t : Nat) (t' : Int) (hd : d ≤ 100) (ht : t ≤ 100) (x : List Fo) (q : Sl) (out : List Fo) (ha : a ≤ 400) (ho : out.length ≤ 2000) (hk : 9 ≤ forK raw (d + 1) a t ∧ forK raw (d + 1) a t < 13)
 (ihx : ∀ (q : Sl) (out' : List Fo), out'.length ≤ out.length + 1 → GrT 67 G bg raw vars props ((t : Int) - 1) (((d + 1 : Nat) : Int) - 1) (a + 1) q out' x (t')) :
 GrT 67 G bg raw vars props (t) (((d + 1 : Nat) : Int)) (a) q out (⟨forT (forK raw (d + 1) a t), 0⟩ :: x) (t') := by
 have hb := forB_bound raw (d + 1) a
 have hB4 : 4 ≤ forB raw (d + 1) a := by rcases forK_cases raw (d + 1) a t with ⟨_, e⟩ | ⟨_, e⟩ <;> omega
 obtain ⟨n4, ⟨p16, p4⟩, c1⟩ := forNode G raw hr d a hB4
 have hcs := forK_cases raw (d + 1) a t
 have l1 : ∀ o : Fo, (out ++ [o]).length = out.length + 1 := fun o => by simp
 have N1 := fun o q1 => ihx q1 (out ++ [o]) (Nat.le_of_eq (l1 o))
 obtain ⟨c2, e⟩ : ¬ (8 < forB raw (d + 1) a ∧ t = 0) ∧ forK raw (d + 1) a t = forB raw (d + 1) a := by
  rcases hcs with h | ⟨_, e⟩
  · exact h
  · omega
 rw [e] at hk ⊢
 have hlt : (forB raw (d + 1) a - 9).toNat < ([14, 17, 18, 17] : List Int).length := by simp only [List.length_cons, List.length_nil]; omega
 have eT : forT (forB raw (d + 1) a) = ([14, 17, 18, 17] : List Int)[(forB raw (d + 1) a - 9).toNat]'hlt := by
  have hK : forB raw (d + 1) a = 9 ∨ forB raw (d + 1) a = 10 ∨ forB raw (d + 1) a = 11 ∨ forB raw (d + 1) a = 12 := by omega
  clear hcs e hk c2 p16 hB4 hb
  generalize forB raw (d + 1) a = K at hK hlt
  rcases hK with rfl | rfl | rfl | rfl <;> rfl
 rw [eT]
 clear hcs
 replace N1 := N1 ⟨([14, 17, 18, 17] : List Int)[(forB raw (d + 1) a - 9).toNat]'hlt, 0⟩
 unfold GrT
 refine AC_ofV (ts := []) Tryz.f67.ntmps Tryz.func67 rfl rfl rfl (by simp [Tryz.ntmps67]) fun W I => ?_
 repeat' (first
  | refine armXK4_1 ?_
  | ((with_reducible apply callG); (focus rfl); (focus exact cal_take); (focus exact take G bg raw vars props a t q.v (by omega)); (focus exact takeD); (focus rfl); (focus exact appD))
  | ((with_reducible apply (jbuild_ns [14, 17, 18, 17])); (focus rfl); (focus rfl); (focus rfl); (focus (with_reducible exact ElC.h)); (focus rfl); (focus rfl); (focus rfl))
  | ((with_reducible apply callG); (focus rfl); (focus exact cal_gput); (focus exact gput G bg raw vars props (a + 1) ((t : Int) - 1) q out (([14, 17, 18, 17] : List Int)[(forB raw (d + 1) a - 9).toNat]'hlt) 0 (by omega)); (focus exact takeD); (focus rfl); (focus exact appD))
  | exact True.intro | refine stpH ?_ | refine two ?_ ?_ | refine allc fun c_ => ?_
  | (refine imp fun hc => ?_) <;> try exact cx1 hc
  | refine all fun v_ => ?_)
 obtain ⟨q1, rfl⟩ : ∃ x, x = v_ := ⟨v_, rfl⟩
 repeat' (first
  | ((with_reducible apply callG); (focus rfl); (focus exact cal_formula); (focus exact N1 q1); (focus exact takeD); (focus rfl); (focus exact appD))
  | exact True.intro | refine stpH ?_ | refine two ?_ ?_ | refine allc fun c_ => ?_
  | (refine imp fun hc => ?_) <;> try exact cx1 hc
  | refine all fun v_ => ?_)
 refine retv (VS.take (hc := [.cells bg 119 [.d (opsD raw), .int ((a + 1 + x.length : Nat) : Int), .int vars, .int props, .int (t'), .val v_.v], rowE v_.v 62 2 Fo.cells (out ++ [⟨([14, 17, 18, 17] : List Int)[(forB raw (d + 1) a - 9).toNat]'hlt, 0⟩] ++ x)]) (by exact takedD) (Env.le_refl _)) ?_
 exact ⟨v_, rfl, by rw [app1, len1 a ⟨([14, 17, 18, 17] : List Int)[(forB raw (d + 1) a - 9).toNat]'hlt, 0⟩]⟩
theorem forUn (hr : rawOk raw) (hp : 0 < props ∧ props ≤ 1000) (d a t : Nat) (t1 t2 : Int) (hd : d ≤ 100) (ht : t ≤ 100) (x y : List Fo) (q : Sl) (out : List Fo) (ha : a ≤ 400) (ho : out.length ≤ 2000) (hk : 13 ≤ forK raw (d + 1) a t)
 (ihx : ∀ (q : Sl) (out' : List Fo), out'.length ≤ out.length + 1 → GrT 67 G bg raw vars props ((t : Int) - 1) (((d + 1 : Nat) : Int) - 1) (a + 1) q out' x (t1))
 (ihy : ∀ (q : Sl) (out' : List Fo), out'.length ≤ out.length + 1 + x.length → GrT 67 G bg raw vars props (t1) (((d + 1 : Nat) : Int) - 1) (a + 1 + x.length) q out' y (t2)) :
 GrT 67 G bg raw vars props (t) (((d + 1 : Nat) : Int)) (a) q out (⟨15 + forK raw (d + 1) a t % 2, 0⟩ :: (x ++ y)) (t2) := by
 have hb := forB_bound raw (d + 1) a
 have hB4 : 4 ≤ forB raw (d + 1) a := by rcases forK_cases raw (d + 1) a t with ⟨_, e⟩ | ⟨_, e⟩ <;> omega
 obtain ⟨n4, ⟨p16, p4⟩, c1⟩ := forNode G raw hr d a hB4
 have hcs := forK_cases raw (d + 1) a t
 have l1 : ∀ o : Fo, (out ++ [o]).length = out.length + 1 := fun o => by simp
 have l2 : ∀ o : Fo, (out ++ [o] ++ x).length = out.length + 1 + x.length := fun o => by simp; omega
 obtain ⟨c2, e⟩ : ¬ (8 < forB raw (d + 1) a ∧ t = 0) ∧ forK raw (d + 1) a t = forB raw (d + 1) a := by
  rcases hcs with h | ⟨_, e⟩
  · exact h
  · omega
 rw [e] at hk ⊢
 have N1 := fun q1 => ihx q1 (out ++ [⟨15 + forB raw (d + 1) a % 2, 0⟩]) (Nat.le_of_eq (l1 _))
 have N2 := fun q1 => ihy q1 (out ++ [⟨15 + forB raw (d + 1) a % 2, 0⟩] ++ x) (Nat.le_of_eq (l2 _))
 clear hcs
 unfold GrT
 refine AC_ofV (ts := []) Tryz.f67.ntmps Tryz.func67 rfl rfl rfl (by simp [Tryz.ntmps67]) fun W I => ?_
 repeat' (first
  | refine armXK4_1 ?_
  | ((with_reducible apply callG); (focus rfl); (focus exact cal_take); (focus exact take G bg raw vars props a t q.v (by omega)); (focus exact takeD); (focus rfl); (focus exact appD))
  | ((with_reducible apply callG); (focus rfl); (focus exact cal_gput); (focus exact gput G bg raw vars props (a + 1) ((t : Int) - 1) q out (15 + forB raw (d + 1) a % 2) 0 (by omega)); (focus exact takeD); (focus rfl); (focus exact appD))
  | exact True.intro | refine stpH ?_ | refine two ?_ ?_ | refine allc fun c_ => ?_
  | (refine imp fun hc => ?_) <;> try exact cx1 hc
  | refine all fun v_ => ?_)
 obtain ⟨q1, rfl⟩ : ∃ x, x = v_ := ⟨v_, rfl⟩
 repeat' (first
  | ((with_reducible apply callG); (focus rfl); (focus exact cal_formula); (focus exact N1 q1); (focus exact takeD); (focus rfl); (focus exact appD))
  | exact True.intro | refine stpH ?_ | refine two ?_ ?_ | refine allc fun c_ => ?_
  | (refine imp fun hc => ?_) <;> try exact cx1 hc
  | refine all fun v_ => ?_)
 obtain ⟨q2, rfl⟩ : ∃ x, x = v_ := ⟨v_, rfl⟩
 repeat' (first
  | ((with_reducible apply callG); (focus rfl); (focus exact cal_formula); (focus exact N2 q2); (focus exact takeD); (focus rfl); (focus exact appD))
  | exact True.intro | refine stpH ?_ | refine two ?_ ?_ | refine allc fun c_ => ?_
  | (refine imp fun hc => ?_) <;> try exact cx1 hc
  | refine all fun v_ => ?_)
 refine retv (VS.take (hc := [.cells bg 119 [.d (opsD raw), .int ((a + 1 + x.length + y.length : Nat) : Int), .int vars, .int props, .int (t2), .val v_.v], rowE v_.v 62 2 Fo.cells (out ++ [⟨15 + forB raw (d + 1) a % 2, 0⟩] ++ x ++ y)]) (by exact takedD) (Env.le_refl _)) ?_
 exact ⟨v_, rfl, by rw [app2, len2 a ⟨15 + forB raw (d + 1) a % 2, 0⟩]⟩
theorem formula (hr : rawOk raw) (hp : 0 < props ∧ props ≤ 1000) : ∀ (d a t : Nat) (q : Sl) (out : List Fo), a + 30 * (d + 1) ≤ 300 → out.length + 30 * (d + 1) ≤ 1900 → d ≤ 5 → t ≤ 100 → GrT 67 G bg raw vars props (t) ((d : Int)) (a) q out (forG raw props d a t).1 (((forG raw props d a t).2 : Int))
 | 0, a, t, q, out, ha, ho, _, ht => by
   have := (forB_bound raw 0 a).2.2 (.inl rfl)
   exact forLeaf G bg raw vars props hr hp 0 a t q out ht (by omega) (by omega) this
 | d + 1, a, t, q, out, ha, ho, hd, ht => by
   have hc : ((d + 1 : Nat) : Int) - 1 = (d : Int) := by omega
   have hb := forK_bound raw (d + 1) a t
   have hcs := forK_cases raw (d + 1) a t
   rw [forG]
   by_cases k4 : forK raw (d + 1) a t < 4
   · rw [if_pos k4]
     exact forLeaf G bg raw vars props hr hp (d + 1) a t q out ht (by omega) (by omega) (by rcases hcs with ⟨_, e⟩ | ⟨_, e⟩ <;> omega)
   rw [if_neg k4]
   have lenS : ∀ a' t', (forG raw props d a' t').1.length ≤ 18 := fun a' t' => by
    have h := forG_len raw props d a' t'
    by_cases c : 12 ≤ a'
    · have := h.2.2 c; omega
    · have := h.2.1; omega
   have tl : ∀ a' t', (forG raw props d a' t').2 ≤ t' := fun a' t' => by
    have := (forG_wf raw hp.1 d a' t').2
    omega
   by_cases k6 : forK raw (d + 1) a t < 6
   · rw [if_pos k6]
     refine forNot G bg raw vars props hr hp d a t _ (by omega) ht _ q out (by omega) (by omega) ⟨by omega, k6⟩ (fun q' out' ho' => ?_)
     rw [hc]
     exact formula hr hp d (a + 1) t q' out' (by omega) (by omega) (by omega) ht
   rw [if_neg k6]
   by_cases k9 : forK raw (d + 1) a t < 9
   · rw [if_pos k9]
     refine forTwo G bg raw vars props hr hp d a t (forG raw props d (a + 1) t).2 _ (by omega) ht _ _ q out (by omega) (by omega) ⟨by omega, k9⟩ (fun q' out' ho' => ?_) (fun q' out' ho' => ?_)
     · rw [hc]
       exact formula hr hp d (a + 1) t q' out' (by omega) (by omega) (by omega) ht
     · rw [hc]
       have := lenS (a + 1) t
       have := tl (a + 1) t
       exact formula hr hp d _ _ q' out' (by omega) (by omega) (by omega) (by omega)
   rw [if_neg k9]
   have ht1 : 1 ≤ t := by
    by_cases c : t = 0
    · have := hb.2.2.2 c; omega
    · omega
   have et : ((t - 1 : Nat) : Int) = (t : Int) - 1 := by omega
   by_cases k13 : forK raw (d + 1) a t < 13
   · rw [if_pos k13]
     refine forOne G bg raw vars props hr hp d a t _ (by omega) ht _ q out (by omega) (by omega) ⟨by omega, k13⟩ (fun q' out' ho' => ?_)
     rw [hc, ← et]
     exact formula hr hp d (a + 1) (t - 1) q' out' (by omega) (by omega) (by omega) (by omega)
   · rw [if_neg k13]
     refine forUn G bg raw vars props hr hp d a t (forG raw props d (a + 1) (t - 1)).2 _ (by omega) ht _ _ q out (by omega) (by omega) (by omega) (fun q' out' ho' => ?_) (fun q' out' ho' => ?_)
     · rw [hc, ← et]
       exact formula hr hp d (a + 1) (t - 1) q' out' (by omega) (by omega) (by omega) (by omega)
     · rw [hc]
       have := lenS (a + 1) (t - 1)
       have := tl (a + 1) (t - 1)
       exact formula hr hp d _ _ q' out' (by omega) (by omega) (by omega) (by omega)
end
end Go.Proofs.YtniklgkoiaeipaaGreatDoor
