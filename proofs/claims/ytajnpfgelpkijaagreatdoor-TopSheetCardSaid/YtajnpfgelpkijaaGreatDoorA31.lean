/- A bundle of this claim's own texts: K3. -/
import Derived.Test.YtajnpfgelpkijaaGreatDoorA19
set_option linter.unusedVariables false
set_option linter.unusedSimpArgs false
set_option maxRecDepth 100000
set_option maxHeartbeats 4000000
namespace Go.Proofs.YtajnpfgelpkijaaGreatDoor
open Go Go.Av Go.Sp
section
variable (G : List (Nat × List D)) (bg : Nat) (raw : List Fo) (vars props : Int)
theorem Oy (hr : Bd raw) (d a : Nat) : ∃ n9 n3 : Int, (ACr Tryz.prog G 47 [.int (tk raw a).kind, .int 9] (.int n9) ∧ ACr Tryz.prog G 47 [.int (tk raw a).kind, .int 3] (.int n3)) ∧ ((d = 0 ∧ n3 = B1 raw d a) ∨ (d ≠ 0 ∧ 10 < a + 1 ∧ n3 = B1 raw d a) ∨ (d ≠ 0 ∧ ¬ 10 < a + 1 ∧ n9 = B1 raw d a)) := by
 refine ⟨_, _, ⟨Ap G _ 9 (by decide) (B9 hr a).1, Ap G _ 3 (by decide) (B9 hr a).1⟩, ?_⟩
 unfold B1
 by_cases c0 : d = 0
 · exact .inl ⟨c0, (if_pos (.inl c0)).symm⟩
 · by_cases c1 : 10 < a + 1
   · exact .inr (.inl ⟨c0, c1, (if_pos (.inr c1)).symm⟩)
   · exact .inr (.inr ⟨c0, c1, (if_neg (fun k => k.elim c0 c1)).symm⟩)
theorem JG {p q : Prop} (hp : p) (h : p → q := by
 apply cmp; (focus (first
  | ((with_reducible apply Ez); (focus rfl); (focus exact AH); (focus exact Ap G (tk raw a).val 2 (by decide) (B9 hr a).2); (focus rfl))
  | ((with_reducible apply je_call0); (focus rfl); (focus (decide +kernel)); (focus rfl); (focus exact AH); (focus exact Ap G (tk raw a).val 2 (by decide) (B9 hr a).2); (focus rfl))
  ))
 exact fun h => h) : q := h hp
theorem aq (hr : Bd raw) (t : Int) (d a : Nat) (q : Sl) (out : List Fo) (ha : a ≤ 400) (ho : out.length ≤ 2000) (hk : B1 raw d a = 0) : GrT 85 G bg raw vars props t ((d : Int)) (a) q out [⟨11 + pk (tk raw a).val 2, 0⟩] t := by
 have h2 := pkb (tk raw a).val (many := 2) (by decide)
 obtain ⟨n9, n3, ⟨p9, p3⟩, e⟩ := Oy G raw hr d a
 unfold GrT
 refine AK (ts := []) Tryz.f85.ntmps Tryz.func85 rfl rfl rfl (by simp [Tryz.ntmps85]) fun W I => ?_
 rcases e with ⟨c0, rfl⟩ | ⟨c0, c1, rfl⟩ | ⟨c0, c1, rfl⟩
 all_goals
  repeat' (first
   | refine ca AH (p9) ?_
   | refine ca AH (p3) ?_
   | refine JG ?_
   | ((with_reducible apply Au); (focus rfl); (focus exact By); (focus exact take G bg raw vars props a t q.v (by omega)); (focus exact AS); (focus rfl); (focus exact A8))
   | ((with_reducible apply Au); (focus rfl); (focus exact Bp); (focus exact IW G bg raw vars props (a + 1) t q out (11 + pk (tk raw a).val 2) 0 (by omega)); (focus exact AS); (focus rfl); (focus exact A8))
   | exact True.intro | refine AJ ?_ | refine two ?_ ?_ | refine AG fun c_ => ?_
   | (refine imp fun hc => ?_) <;> try exact cx1 hc
   | refine all fun v_ => ?_)
  refine AO (VS.take (hc := [.cells bg 122 [.d (AN raw), .int ((a + 1 : Nat) : Int), .int vars, .int props, .int (t), .val v_.v], AF v_.v 53 2 Fo.cells (out ++ [⟨11 + pk (tk raw a).val 2, 0⟩])]) (by exact AB) (Env.le_refl _)) ?_
  exact ⟨v_, rfl, rfl⟩
theorem gK (hr : Bd raw) (hv : 0 < vars ∧ vars ≤ 1000) (t : Int) (d a : Nat) (q : Sl) (out : List Fo) (ha : a ≤ 300) (ho : out.length ≤ 1900) (hk : 1 ≤ B1 raw d a ∧ B1 raw d a < 5) :
 GrT 85 G bg raw vars props t ((d : Int)) (a) q out (⟨6 + B1 raw d a % 2, 0⟩ :: (BZ raw vars 1 (a + 1) ++ BZ raw vars 1 (a + 1 + (BZ raw vars 1 (a + 1)).length))) t := by
 obtain ⟨n9, n3, ⟨p9, p3⟩, e⟩ := Oy G raw hr d a
 have hb := Dl raw d a
 have hx := LU raw vars (a + 1)
 have l1 : ∀ o : Fo, (out ++ [o]).length = out.length + 1 := fun o => by simp
 have l2 : ∀ o : Fo, (out ++ [o] ++ BZ raw vars 1 (a + 1)).length = out.length + 1 + (BZ raw vars 1 (a + 1)).length := fun o => by simp; omega
 have N1 := fun q1 => number G bg raw vars props hr hv t 1 (a + 1) q1 (out ++ [⟨6 + B1 raw d a % 2, 0⟩]) (by omega) (by rw [l1]; omega)
 have N2 := fun q1 => number G bg raw vars props hr hv t 1 (a + 1 + (BZ raw vars 1 (a + 1)).length) q1 (out ++ [⟨6 + B1 raw d a % 2, 0⟩] ++ BZ raw vars 1 (a + 1)) (by omega) (by rw [l2]; omega)
 generalize BZ raw vars 1 (a + 1 + (BZ raw vars 1 (a + 1)).length) = y at N2 ⊢
 generalize BZ raw vars 1 (a + 1) = x at N1 N2 hx l2 ⊢
 unfold GrT
 refine AK (ts := []) Tryz.f85.ntmps Tryz.func85 rfl rfl rfl (by simp [Tryz.ntmps85]) fun W I => ?_
 have hK : B1 raw d a = 1 ∨ B1 raw d a = 2 ∨ B1 raw d a = 3 ∨ B1 raw d a = 4 := by omega
 rcases hK with k | k | k | k <;> rcases e with ⟨c0, rfl⟩ | ⟨c0, c1, rfl⟩ | ⟨c0, c1, rfl⟩ <;> try (exfalso; omega)
 all_goals
  repeat' (first
   | refine ca AH (p9) ?_
   | refine ca AH (p3) ?_
   | refine JG ?_
   | ((with_reducible apply Au); (focus rfl); (focus exact By); (focus exact take G bg raw vars props a t q.v (by omega)); (focus exact AS); (focus rfl); (focus exact A8))
   | ((with_reducible apply Au); (focus rfl); (focus exact Bp); (focus exact IW G bg raw vars props (a + 1) t q out (6 + B1 raw d a % 2) 0 (by omega)); (focus exact AS); (focus rfl); (focus exact A8))
   | exact True.intro | refine AJ ?_ | refine two ?_ ?_ | refine AG fun c_ => ?_
   | (refine imp fun hc => ?_) <;> try exact cx1 hc
   | refine all fun v_ => ?_)
  obtain ⟨q1, rfl⟩ : ∃ x, x = v_ := ⟨v_, rfl⟩
  repeat' (first
   | refine cag Ea (N1 q1) ?_
   | exact True.intro | refine AJ ?_ | refine two ?_ ?_ | refine AG fun c_ => ?_
   | (refine imp fun hc => ?_) <;> try exact cx1 hc
   | refine all fun v_ => ?_)
  obtain ⟨q2, rfl⟩ : ∃ x, x = v_ := ⟨v_, rfl⟩
  repeat' (first
   | refine cag Ea (N2 q2) ?_
   | exact True.intro | refine AJ ?_ | refine two ?_ ?_ | refine AG fun c_ => ?_
   | (refine imp fun hc => ?_) <;> try exact cx1 hc
   | refine all fun v_ => ?_)
  refine AO (VS.take (hc := [.cells bg 122 [.d (AN raw), .int ((a + 1 + x.length + y.length : Nat) : Int), .int vars, .int props, .int (t), .val v_.v], AF v_.v 53 2 Fo.cells (out ++ [⟨6 + B1 raw d a % 2, 0⟩] ++ x ++ y)]) (by exact AB) (Env.le_refl _)) ?_
  exact ⟨v_, rfl, by rw [WM, Vm a ⟨6 + B1 raw d a % 2, 0⟩]⟩
theorem dx (hr : Bd raw) (t : Int) (d a : Nat) (hd : d ≤ 100) (x : List Fo) (q : Sl) (out : List Fo) (ha : a ≤ 400) (ho : out.length ≤ 2000) (hk : B1 raw (d + 1) a = 5)
 (ihx : ∀ (q : Sl) (out' : List Fo), out'.length ≤ out.length + 1 → GrT 85 G bg raw vars props t (((d + 1 : Nat) : Int) - 1) (a + 1) q out' x t) :
 GrT 85 G bg raw vars props t (((d + 1 : Nat) : Int)) (a) q out (⟨10, 0⟩ :: x) t := by
 obtain ⟨n9, n3, ⟨p9, p3⟩, e⟩ := Oy G raw hr (d + 1) a
 have hb := Dl raw (d + 1) a
 have l1 : ∀ o : Fo, (out ++ [o]).length = out.length + 1 := fun o => by simp
 have N1 := fun q1 => ihx q1 (out ++ [⟨10, 0⟩]) (Nat.le_of_eq (l1 _))
 obtain ⟨c0, c1, rfl⟩ : d + 1 ≠ 0 ∧ ¬ 10 < a + 1 ∧ n9 = B1 raw (d + 1) a := by
  rcases e with ⟨c0, _⟩ | ⟨c0, c1, _⟩ | h
  · omega
  · have := hb.2.2 (.inr c1); omega
  · exact h
 unfold GrT
 refine AK (ts := []) Tryz.f85.ntmps Tryz.func85 rfl rfl rfl (by simp [Tryz.ntmps85]) fun W I => ?_
 repeat' (first
  | refine ca AH (p9) ?_
  | refine ca AH (p3) ?_
  | refine JG ?_
  | ((with_reducible apply Au); (focus rfl); (focus exact By); (focus exact take G bg raw vars props a t q.v (by omega)); (focus exact AS); (focus rfl); (focus exact A8))
  | ((with_reducible apply Au); (focus rfl); (focus exact Bp); (focus exact IW G bg raw vars props (a + 1) t q out 10 0 (by omega)); (focus exact AS); (focus rfl); (focus exact A8))
  | exact True.intro | refine AJ ?_ | refine two ?_ ?_ | refine AG fun c_ => ?_
  | (refine imp fun hc => ?_) <;> try exact cx1 hc
  | refine all fun v_ => ?_)
 obtain ⟨q1, rfl⟩ : ∃ x, x = v_ := ⟨v_, rfl⟩
 repeat' (first
  | refine cag F8 (N1 q1) ?_
  | exact True.intro | refine AJ ?_ | refine two ?_ ?_ | refine AG fun c_ => ?_
  | (refine imp fun hc => ?_) <;> try exact cx1 hc
  | refine all fun v_ => ?_)
 refine AO (VS.take (hc := [.cells bg 122 [.d (AN raw), .int ((a + 1 + x.length : Nat) : Int), .int vars, .int props, .int (t), .val v_.v], AF v_.v 53 2 Fo.cells (out ++ [⟨10, 0⟩] ++ x)]) (by exact AB) (Env.le_refl _)) ?_
 exact ⟨v_, rfl, by rw [eC, fK a ⟨10, 0⟩]⟩
theorem eO (hr : Bd raw) (t : Int) (d a : Nat) (hd : d ≤ 100) (x y : List Fo) (q : Sl) (out : List Fo) (ha : a ≤ 400) (ho : out.length ≤ 2000) (hk : 5 < B1 raw (d + 1) a)
 (ihx : ∀ (q : Sl) (out' : List Fo), out'.length ≤ out.length + 1 → GrT 85 G bg raw vars props t (((d + 1 : Nat) : Int) - 1) (a + 1) q out' x t)
 (ihy : ∀ (q : Sl) (out' : List Fo), out'.length ≤ out.length + 1 + x.length → GrT 85 G bg raw vars props t (((d + 1 : Nat) : Int) - 1) (a + 1 + x.length) q out' y t) :
 GrT 85 G bg raw vars props t (((d + 1 : Nat) : Int)) (a) q out (⟨8 + B1 raw (d + 1) a % 2, 0⟩ :: (x ++ y)) t := by
 obtain ⟨n9, n3, ⟨p9, p3⟩, e⟩ := Oy G raw hr (d + 1) a
 have hb := Dl raw (d + 1) a
 have l1 : ∀ o : Fo, (out ++ [o]).length = out.length + 1 := fun o => by simp
 have l2 : ∀ o : Fo, (out ++ [o] ++ x).length = out.length + 1 + x.length := fun o => by simp; omega
 have N1 := fun q1 => ihx q1 (out ++ [⟨8 + B1 raw (d + 1) a % 2, 0⟩]) (Nat.le_of_eq (l1 _))
 have N2 := fun q1 => ihy q1 (out ++ [⟨8 + B1 raw (d + 1) a % 2, 0⟩] ++ x) (Nat.le_of_eq (l2 _))
 obtain ⟨c0, c1, rfl⟩ : d + 1 ≠ 0 ∧ ¬ 10 < a + 1 ∧ n9 = B1 raw (d + 1) a := by
  rcases e with ⟨c0, _⟩ | ⟨c0, c1, _⟩ | h
  · omega
  · have := hb.2.2 (.inr c1); omega
  · exact h
 unfold GrT
 refine AK (ts := []) Tryz.f85.ntmps Tryz.func85 rfl rfl rfl (by simp [Tryz.ntmps85]) fun W I => ?_
 repeat' (first
  | refine ca AH (p9) ?_
  | refine ca AH (p3) ?_
  | refine JG ?_
  | ((with_reducible apply Au); (focus rfl); (focus exact By); (focus exact take G bg raw vars props a t q.v (by omega)); (focus exact AS); (focus rfl); (focus exact A8))
  | ((with_reducible apply Au); (focus rfl); (focus exact Bp); (focus exact IW G bg raw vars props (a + 1) t q out (8 + B1 raw (d + 1) a % 2) 0 (by omega)); (focus exact AS); (focus rfl); (focus exact A8))
  | exact True.intro | refine AJ ?_ | refine two ?_ ?_ | refine AG fun c_ => ?_
  | (refine imp fun hc => ?_) <;> try exact cx1 hc
  | refine all fun v_ => ?_)
 obtain ⟨q1, rfl⟩ : ∃ x, x = v_ := ⟨v_, rfl⟩
 repeat' (first
  | refine cag F8 (N1 q1) ?_
  | exact True.intro | refine AJ ?_ | refine two ?_ ?_ | refine AG fun c_ => ?_
  | (refine imp fun hc => ?_) <;> try exact cx1 hc
  | refine all fun v_ => ?_)
 obtain ⟨q2, rfl⟩ : ∃ x, x = v_ := ⟨v_, rfl⟩
 repeat' (first
  | refine cag F8 (N2 q2) ?_
  | exact True.intro | refine AJ ?_ | refine two ?_ ?_ | refine AG fun c_ => ?_
  | (refine imp fun hc => ?_) <;> try exact cx1 hc
  | refine all fun v_ => ?_)
 refine AO (VS.take (hc := [.cells bg 122 [.d (AN raw), .int ((a + 1 + x.length + y.length : Nat) : Int), .int vars, .int props, .int (t), .val v_.v], AF v_.v 53 2 Fo.cells (out ++ [⟨8 + B1 raw (d + 1) a % 2, 0⟩] ++ x ++ y)]) (by exact AB) (Env.le_refl _)) ?_
 exact ⟨v_, rfl, by rw [WM, Vm a ⟨8 + B1 raw (d + 1) a % 2, 0⟩]⟩
theorem OE (hr : Bd raw) (hv : 0 < vars ∧ vars ≤ 1000) (t : Int) (d a : Nat) (q : Sl) (out : List Fo) (ha : a ≤ 300) (ho : out.length ≤ 1900) (hk : B1 raw d a < 5) : GrT 85 G bg raw vars props t ((d : Int)) (a) q out (Oo raw vars a (B1 raw d a)) t := by
 have hb := Dl raw d a
 unfold Oo
 by_cases c : B1 raw d a = 0
 · rw [if_pos c]; exact aq G bg raw vars props hr t d a q out (by omega) (by omega) c
 · rw [if_neg c]; exact gK G bg raw vars props hr hv t d a q out ha ho (by omega)
theorem Pt (hr : Bd raw) (hv : 0 < vars ∧ vars ≤ 1000) (t : Int) : ∀ (d a : Nat) (q : Sl) (out : List Fo), a + 60 * (d + 1) ≤ 300 → out.length + 60 * (d + 1) ≤ 1900 → d ≤ 5 → GrT 85 G bg raw vars props t ((d : Int)) (a) q out (Db raw vars d a) t
 | 0, a, q, out, ha, ho, _ => OE G bg raw vars props hr hv t 0 a q out (by omega) (by omega) (by have := (Dl raw 0 a).2.2 (.inl rfl); omega)
 | d + 1, a, q, out, ha, ho, hd => by
   have hx := JI raw vars d (a + 1)
   have hc : ((d + 1 : Nat) : Int) - 1 = (d : Int) := by omega
   rw [Db]
   by_cases hk : B1 raw (d + 1) a < 5
   · rw [if_pos hk]
     exact OE G bg raw vars props hr hv t (d + 1) a q out (by omega) (by omega) hk
   rw [if_neg hk]
   by_cases h5 : B1 raw (d + 1) a = 5
   · rw [if_pos h5]
     refine dx G bg raw vars props hr t d a (by omega) _ q out (by omega) (by omega) h5 (fun q' out' ho' => ?_)
     rw [hc]
     exact Pt hr hv t d (a + 1) q' out' (by omega) (by omega) (by omega)
   · rw [if_neg h5]
     refine eO G bg raw vars props hr t d a (by omega) _ _ q out (by omega) (by omega) (by omega) (fun q' out' ho' => ?_) (fun q' out' ho' => ?_)
     · rw [hc]
       exact Pt hr hv t d (a + 1) q' out' (by omega) (by omega) (by omega)
     · rw [hc]
       exact Pt hr hv t d _ q' out' (by omega) (by omega) (by omega)
end
end Go.Proofs.YtajnpfgelpkijaaGreatDoor
