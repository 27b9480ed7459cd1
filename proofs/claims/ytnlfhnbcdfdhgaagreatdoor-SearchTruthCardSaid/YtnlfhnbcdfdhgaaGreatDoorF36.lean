/- A bundle of this claim's own texts: K4. -/
import Derived.Test.YtnlfhnbcdfdhgaaGreatDoorF34
set_option linter.unusedVariables false
set_option linter.unusedSimpArgs false
set_option maxRecDepth 100000
set_option maxHeartbeats 4000000
namespace Go.Sp
open Go Go.Av
def BZ (raw : List Fo) (d a : Nat) : Int := if d = 0 ∨ 12 < a + 1 then pk (tk raw a).kind 4 else pk (tk raw a).kind 16
theorem cj (raw : List Fo) (d a t : Nat) : Cl raw d a t = if 8 < BZ raw d a ∧ t = 0 then 4 + BZ raw d a % 5 else BZ raw d a := rfl
theorem C9 (raw : List Fo) (d a : Nat) : 0 ≤ BZ raw d a ∧ BZ raw d a < 16 ∧ (d = 0 ∨ 12 < a + 1 → BZ raw d a < 4) := by
 have h2 := BE (tk raw a).kind (many := 4) (by decide)
 have h5 := BE (tk raw a).kind (many := 16) (by decide)
 unfold BZ
 split
 · exact ⟨h2.1, by omega, fun _ => h2.2⟩
 · rename_i c; exact ⟨h5.1, h5.2, fun c' => absurd c' c⟩
theorem CV (raw : List Fo) (d a t : Nat) : (¬ (8 < BZ raw d a ∧ t = 0) ∧ Cl raw d a t = BZ raw d a) ∨ ((8 < BZ raw d a ∧ t = 0) ∧ Cl raw d a t = 4 + BZ raw d a % 5) := by
 rw [cj]
 by_cases c : 8 < BZ raw d a ∧ t = 0
 · exact .inr ⟨c, if_pos c⟩
 · exact .inl ⟨c, if_neg c⟩
end Go.Sp
namespace Go.Proofs.YtnlfhnbcdfdhgaaGreatDoor
open Go Go.Av Go.Sp
theorem CF : Cal Tryz.prog 74 := Cal.of Tryz.func74 (by kernel_rfl) (by kernel_rfl)
section
variable (G : List (Nat × List D)) (bg : Nat) (raw : List Fo) (vars props : Int)
theorem XH (hr : BH raw) (d a : Nat) : ∃ n16 n4 : Int, (ACr Tryz.prog G 50 [.int (tk raw a).kind, .int 16] (.int n16) ∧ ACr Tryz.prog G 50 [.int (tk raw a).kind, .int 4] (.int n4)) ∧ ((d = 0 ∧ n4 = BZ raw d a) ∨ (d ≠ 0 ∧ 12 < a + 1 ∧ n4 = BZ raw d a) ∨ (d ≠ 0 ∧ ¬ 12 < a + 1 ∧ n16 = BZ raw d a)) := by
 refine ⟨_, _, ⟨Al G _ 16 (by decide) (B9 hr a).1, Al G _ 4 (by decide) (B9 hr a).1⟩, ?_⟩
 unfold BZ
 by_cases c0 : d = 0
 · exact .inl ⟨c0, (if_pos (.inl c0)).symm⟩
 · by_cases c1 : 12 < a + 1
   · exact .inr (.inl ⟨c0, c1, (if_pos (.inr c1)).symm⟩)
   · exact .inr (.inr ⟨c0, c1, (if_neg (fun k => k.elim c0 c1)).symm⟩)
theorem Ti (hr : BH raw) (hp : 0 < props ∧ props ≤ 1000) (d a t : Nat) (q : Sl) (out : List Fo) (ht : t ≤ 100) (ha : a ≤ 400) (ho : out.length ≤ 2000) (hk : BZ raw d a < 4) : GrT 74 G bg raw vars props (t) (d) (a) q out [Qt raw props a] (t) := by
 have hb := C9 raw d a
 obtain ⟨n16, n4, ⟨p16, p4⟩, e⟩ := XH G raw hr d a
 unfold Qt
 unfold GrT
 refine AJ (ts := []) Tryz.f74.ntmps Tryz.func74 rfl rfl rfl (by simp [Tryz.ntmps74]) fun W I => ?_
 rcases e with ⟨c0, rfl⟩ | ⟨c0, c1, rfl⟩ | ⟨c0, c1, rfl⟩
 all_goals
  repeat' (first
   | refine ca AI (p16) ?_
   | refine ca AI (p4) ?_
   | refine ca AI (Al G (tk raw a).val props hp.1 (B9 hr a).2) ?_
   | ((with_reducible apply As); (focus rfl); (focus exact Bs); (focus exact take G bg raw vars props a t q.v (by omega)); (focus exact AW); (focus rfl); (focus exact BO))
   | ((with_reducible apply As); (focus rfl); (focus exact Bx); (focus exact Ia G bg raw vars props (a + 1) t q out 13 (pk (tk raw a).val props) (by omega)); (focus exact AW); (focus rfl); (focus exact BO))
   | exact True.intro | refine Hz ?_ | refine two ?_ ?_ | refine AF fun c_ => ?_
   | (refine imp fun hc => ?_) <;> try exact cx hc
   | refine all fun v_ => ?_)
  refine ⟨?_⟩
  refine Bn [.cells bg 145 [.d (AO raw), .int ((a + 1 : Nat) : Int), .int vars, .int props, .int (t), .val q.v], AH q.v 137 2 Fo.cells (out)] mixed rfl (by (repeat ((with_reducible apply Hd.cons); (focus rfl))); exact Hd.nil) (by (repeat (with_reducible apply AU)); exact len_nil) (by decide +kernel) (by exact AW) ?_
  repeat' (first
   | refine ca AI (p16) ?_
   | refine ca AI (p4) ?_
   | refine ca AI (Al G (tk raw a).val props hp.1 (B9 hr a).2) ?_
   | ((with_reducible apply As); (focus rfl); (focus exact Bs); (focus exact take G bg raw vars props a t q.v (by omega)); (focus exact AW); (focus rfl); (focus exact BO))
   | ((with_reducible apply As); (focus rfl); (focus exact Bx); (focus exact Ia G bg raw vars props (a + 1) t q out 13 (pk (tk raw a).val props) (by omega)); (focus exact AW); (focus rfl); (focus exact BO))
   | exact True.intro | refine AG ?_ | refine two ?_ ?_ | refine AF fun c_ => ?_
   | (refine imp fun hc => ?_) <;> try exact cx1 hc
   | refine all fun v_ => ?_)
  refine AN (VS.take (hc := [.cells bg 145 [.d (AO raw), .int ((a + 1 : Nat) : Int), .int vars, .int props, .int (t), .val v_.v], AH v_.v 137 2 Fo.cells (out ++ [⟨13, pk (tk raw a).val props⟩])]) (by exact AD) (Env.le_refl _)) ?_
  exact ⟨v_, rfl, rfl⟩
theorem Kj (hr : BH raw) (d a : Nat) (hk : 4 ≤ BZ raw (d + 1) a) : ∃ n4 : Int, (ACr Tryz.prog G 50 [.int (tk raw a).kind, .int 16] (.int (BZ raw (d + 1) a)) ∧ ACr Tryz.prog G 50 [.int (tk raw a).kind, .int 4] (.int n4)) ∧ ¬ 12 < a + 1 := by
 have hb := C9 raw (d + 1) a
 obtain ⟨n16, n4, ⟨p16, p4⟩, e⟩ := XH G raw hr (d + 1) a
 rcases e with ⟨c0, _⟩ | ⟨c0, c1, _⟩ | ⟨c0, c1, rfl⟩
 · omega
 · have := hb.2.2 (.inr c1); omega
 · exact ⟨n4, ⟨p16, p4⟩, c1⟩
theorem di (hr : BH raw) (hp : 0 < props ∧ props ≤ 1000) (d a t : Nat) (t' : Int) (hd : d ≤ 100) (ht : t ≤ 100) (x : List Fo) (q : Sl) (out : List Fo) (ha : a ≤ 400) (ho : out.length ≤ 2000) (hk : 4 ≤ Cl raw (d + 1) a t ∧ Cl raw (d + 1) a t < 6)
 (ihx : ∀ (q : Sl) (out' : List Fo), out'.length ≤ out.length + 1 → GrT 74 G bg raw vars props (t) (((d + 1 : Nat) : Int) - 1) (a + 1) q out' x (t')) :
 GrT 74 G bg raw vars props (t) (((d + 1 : Nat) : Int)) (a) q out (⟨10, 0⟩ :: x) (t') := by
 have hb := C9 raw (d + 1) a
 have hB4 : 4 ≤ BZ raw (d + 1) a := by rcases CV raw (d + 1) a t with ⟨_, e⟩ | ⟨_, e⟩ <;> omega
 obtain ⟨n4, ⟨p16, p4⟩, c1⟩ := Kj G raw hr d a hB4
 have hcs := CV raw (d + 1) a t
 have l1 : ∀ o : Fo, (out ++ [o]).length = out.length + 1 := fun o => by simp
 have N1 := fun q1 => ihx q1 (out ++ [⟨10, 0⟩]) (Nat.le_of_eq (l1 _))
 unfold GrT
 refine AJ (ts := []) Tryz.f74.ntmps Tryz.func74 rfl rfl rfl (by simp [Tryz.ntmps74]) fun W I => ?_
 rcases hcs with ⟨c2, e⟩ | ⟨c2, e⟩
 all_goals
  repeat' (first
   | refine ca AI (p16) ?_
   | refine ca AI (p4) ?_
   | refine ca AI (Al G (tk raw a).val props hp.1 (B9 hr a).2) ?_
   | ((with_reducible apply As); (focus rfl); (focus exact Bs); (focus exact take G bg raw vars props a t q.v (by omega)); (focus exact AW); (focus rfl); (focus exact BO))
   | ((with_reducible apply As); (focus rfl); (focus exact Bx); (focus exact Ia G bg raw vars props (a + 1) t q out 10 0 (by omega)); (focus exact AW); (focus rfl); (focus exact BO))
   | exact True.intro | refine AG ?_ | refine two ?_ ?_ | refine AF fun c_ => ?_
   | (refine imp fun hc => ?_) <;> try exact cx1 hc
   | refine all fun v_ => ?_)
  obtain ⟨q1, rfl⟩ : ∃ x, x = v_ := ⟨v_, rfl⟩
  repeat' (first
   | refine cag CF (N1 q1) ?_
   | exact True.intro | refine AG ?_ | refine two ?_ ?_ | refine AF fun c_ => ?_
   | (refine imp fun hc => ?_) <;> try exact cx1 hc
   | refine all fun v_ => ?_)
  refine AN (VS.take (hc := [.cells bg 145 [.d (AO raw), .int ((a + 1 + x.length : Nat) : Int), .int vars, .int props, .int (t'), .val v_.v], AH v_.v 137 2 Fo.cells (out ++ [⟨10, 0⟩] ++ x)]) (by exact AD) (Env.le_refl _)) ?_
  exact ⟨v_, rfl, by rw [dX, dA a ⟨10, 0⟩]⟩
theorem dN (hr : BH raw) (hp : 0 < props ∧ props ≤ 1000) (d a t : Nat) (t1 t2 : Int) (hd : d ≤ 100) (ht : t ≤ 100) (x y : List Fo) (q : Sl) (out : List Fo) (ha : a ≤ 400) (ho : out.length ≤ 2000) (hk : 6 ≤ Cl raw (d + 1) a t ∧ Cl raw (d + 1) a t < 9)
 (ihx : ∀ (q : Sl) (out' : List Fo), out'.length ≤ out.length + 1 → GrT 74 G bg raw vars props (t) (((d + 1 : Nat) : Int) - 1) (a + 1) q out' x (t1))
 (ihy : ∀ (q : Sl) (out' : List Fo), out'.length ≤ out.length + 1 + x.length → GrT 74 G bg raw vars props (t1) (((d + 1 : Nat) : Int) - 1) (a + 1 + x.length) q out' y (t2)) :
 GrT 74 G bg raw vars props (t) (((d + 1 : Nat) : Int)) (a) q out (⟨8 + Cl raw (d + 1) a t % 2, 0⟩ :: (x ++ y)) (t2) := by
 have hb := C9 raw (d + 1) a
 have hB4 : 4 ≤ BZ raw (d + 1) a := by rcases CV raw (d + 1) a t with ⟨_, e⟩ | ⟨_, e⟩ <;> omega
 obtain ⟨n4, ⟨p16, p4⟩, c1⟩ := Kj G raw hr d a hB4
 have hcs := CV raw (d + 1) a t
 have l1 : ∀ o : Fo, (out ++ [o]).length = out.length + 1 := fun o => by simp
 have l2 : ∀ o : Fo, (out ++ [o] ++ x).length = out.length + 1 + x.length := fun o => by simp; omega
 have N1 := fun o q1 => ihx q1 (out ++ [o]) (Nat.le_of_eq (l1 o))
 have N2 := fun o q1 => ihy q1 (out ++ [o] ++ x) (Nat.le_of_eq (l2 o))
 rcases hcs with ⟨c2, e⟩ | ⟨c2, e⟩
 · rw [e] at hk ⊢
   replace N1 := N1 ⟨8 + BZ raw (d + 1) a % 2, 0⟩
   replace N2 := N2 ⟨8 + BZ raw (d + 1) a % 2, 0⟩
   unfold GrT
   refine AJ (ts := []) Tryz.f74.ntmps Tryz.func74 rfl rfl rfl (by simp [Tryz.ntmps74]) fun W I => ?_
   repeat' (first
    | refine ca AI (p16) ?_
    | refine ca AI (p4) ?_
    | refine ca AI (Al G (tk raw a).val props hp.1 (B9 hr a).2) ?_
    | ((with_reducible apply As); (focus rfl); (focus exact Bs); (focus exact take G bg raw vars props a t q.v (by omega)); (focus exact AW); (focus rfl); (focus exact BO))
    | ((with_reducible apply As); (focus rfl); (focus exact Bx); (focus exact Ia G bg raw vars props (a + 1) t q out (8 + BZ raw (d + 1) a % 2) 0 (by omega)); (focus exact AW); (focus rfl); (focus exact BO))
    | exact True.intro | refine AG ?_ | refine two ?_ ?_ | refine AF fun c_ => ?_
    | (refine imp fun hc => ?_) <;> try exact cx1 hc
    | refine all fun v_ => ?_)
   obtain ⟨q1, rfl⟩ : ∃ x, x = v_ := ⟨v_, rfl⟩
   repeat' (first
    | refine cag CF (N1 q1) ?_
    | exact True.intro | refine AG ?_ | refine two ?_ ?_ | refine AF fun c_ => ?_
    | (refine imp fun hc => ?_) <;> try exact cx1 hc
    | refine all fun v_ => ?_)
   obtain ⟨q2, rfl⟩ : ∃ x, x = v_ := ⟨v_, rfl⟩
   repeat' (first
    | refine cag CF (N2 q2) ?_
    | exact True.intro | refine AG ?_ | refine two ?_ ?_ | refine AF fun c_ => ?_
    | (refine imp fun hc => ?_) <;> try exact cx1 hc
    | refine all fun v_ => ?_)
   refine AN (VS.take (hc := [.cells bg 145 [.d (AO raw), .int ((a + 1 + x.length + y.length : Nat) : Int), .int vars, .int props, .int (t2), .val v_.v], AH v_.v 137 2 Fo.cells (out ++ [⟨8 + BZ raw (d + 1) a % 2, 0⟩] ++ x ++ y)]) (by exact AD) (Env.le_refl _)) ?_
   exact ⟨v_, rfl, by rw [Vb, WT a ⟨8 + BZ raw (d + 1) a % 2, 0⟩]⟩
 · rw [e] at hk ⊢
   replace N1 := N1 ⟨8 + (4 + BZ raw (d + 1) a % 5) % 2, 0⟩
   replace N2 := N2 ⟨8 + (4 + BZ raw (d + 1) a % 5) % 2, 0⟩
   unfold GrT
   refine AJ (ts := []) Tryz.f74.ntmps Tryz.func74 rfl rfl rfl (by simp [Tryz.ntmps74]) fun W I => ?_
   repeat' (first
    | refine ca AI (p16) ?_
    | refine ca AI (p4) ?_
    | refine ca AI (Al G (tk raw a).val props hp.1 (B9 hr a).2) ?_
    | ((with_reducible apply As); (focus rfl); (focus exact Bs); (focus exact take G bg raw vars props a t q.v (by omega)); (focus exact AW); (focus rfl); (focus exact BO))
    | ((with_reducible apply As); (focus rfl); (focus exact Bx); (focus exact Ia G bg raw vars props (a + 1) t q out (8 + (4 + BZ raw (d + 1) a % 5) % 2) 0 (by omega)); (focus exact AW); (focus rfl); (focus exact BO))
    | exact True.intro | refine AG ?_ | refine two ?_ ?_ | refine AF fun c_ => ?_
    | (refine imp fun hc => ?_) <;> try exact cx1 hc
    | refine all fun v_ => ?_)
   obtain ⟨q1, rfl⟩ : ∃ x, x = v_ := ⟨v_, rfl⟩
   repeat' (first
    | refine cag CF (N1 q1) ?_
    | exact True.intro | refine AG ?_ | refine two ?_ ?_ | refine AF fun c_ => ?_
    | (refine imp fun hc => ?_) <;> try exact cx1 hc
    | refine all fun v_ => ?_)
   obtain ⟨q2, rfl⟩ : ∃ x, x = v_ := ⟨v_, rfl⟩
   repeat' (first
    | refine cag CF (N2 q2) ?_
    | exact True.intro | refine AG ?_ | refine two ?_ ?_ | refine AF fun c_ => ?_
    | (refine imp fun hc => ?_) <;> try exact cx1 hc
    | refine all fun v_ => ?_)
   refine AN (VS.take (hc := [.cells bg 145 [.d (AO raw), .int ((a + 1 + x.length + y.length : Nat) : Int), .int vars, .int props, .int (t2), .val v_.v], AH v_.v 137 2 Fo.cells (out ++ [⟨8 + (4 + BZ raw (d + 1) a % 5) % 2, 0⟩] ++ x ++ y)]) (by exact AD) (Env.le_refl _)) ?_
   exact ⟨v_, rfl, by rw [Vb, WT a ⟨8 + (4 + BZ raw (d + 1) a % 5) % 2, 0⟩]⟩
theorem dB (hr : BH raw) (hp : 0 < props ∧ props ≤ 1000) (d a t : Nat) (t' : Int) (hd : d ≤ 100) (ht : t ≤ 100) (x : List Fo) (q : Sl) (out : List Fo) (ha : a ≤ 400) (ho : out.length ≤ 2000) (hk : 9 ≤ Cl raw (d + 1) a t ∧ Cl raw (d + 1) a t < 13)
 (ihx : ∀ (q : Sl) (out' : List Fo), out'.length ≤ out.length + 1 → GrT 74 G bg raw vars props ((t : Int) - 1) (((d + 1 : Nat) : Int) - 1) (a + 1) q out' x (t')) :
 GrT 74 G bg raw vars props (t) (((d + 1 : Nat) : Int)) (a) q out (⟨aY (Cl raw (d + 1) a t), 0⟩ :: x) (t') := by
 have hb := C9 raw (d + 1) a
 have hB4 : 4 ≤ BZ raw (d + 1) a := by rcases CV raw (d + 1) a t with ⟨_, e⟩ | ⟨_, e⟩ <;> omega
 obtain ⟨n4, ⟨p16, p4⟩, c1⟩ := Kj G raw hr d a hB4
 have hcs := CV raw (d + 1) a t
 have l1 : ∀ o : Fo, (out ++ [o]).length = out.length + 1 := fun o => by simp
 have N1 := fun o q1 => ihx q1 (out ++ [o]) (Nat.le_of_eq (l1 o))
 obtain ⟨c2, e⟩ : ¬ (8 < BZ raw (d + 1) a ∧ t = 0) ∧ Cl raw (d + 1) a t = BZ raw (d + 1) a := by
  rcases hcs with h | ⟨_, e⟩
  · exact h
  · omega
 rw [e] at hk ⊢
 have hlt : (BZ raw (d + 1) a - 9).toNat < ([14, 17, 18, 17] : List Int).length := by simp only [List.length_cons, List.length_nil]; omega
 have eT : aY (BZ raw (d + 1) a) = ([14, 17, 18, 17] : List Int)[(BZ raw (d + 1) a - 9).toNat]'hlt := by
  have hK : BZ raw (d + 1) a = 9 ∨ BZ raw (d + 1) a = 10 ∨ BZ raw (d + 1) a = 11 ∨ BZ raw (d + 1) a = 12 := by omega
  clear hcs e hk c2 p16 hB4 hb
  generalize BZ raw (d + 1) a = K at hK hlt
  rcases hK with rfl | rfl | rfl | rfl <;> rfl
 rw [eT]
 clear hcs
 replace N1 := N1 ⟨([14, 17, 18, 17] : List Int)[(BZ raw (d + 1) a - 9).toNat]'hlt, 0⟩
 unfold GrT
 refine AJ (ts := []) Tryz.f74.ntmps Tryz.func74 rfl rfl rfl (by simp [Tryz.ntmps74]) fun W I => ?_
 repeat' (first
  | refine ca AI (p16) ?_
  | refine ca AI (p4) ?_
  | refine ca AI (Al G (tk raw a).val props hp.1 (B9 hr a).2) ?_
  | ((with_reducible apply As); (focus rfl); (focus exact Bs); (focus exact take G bg raw vars props a t q.v (by omega)); (focus exact AW); (focus rfl); (focus exact BO))
  | ((with_reducible apply (Vj [14, 17, 18, 17])); (iterate 3 focus rfl); (focus (with_reducible exact ElC.h)); (focus rfl); (focus rfl); (focus rfl))
  | ((with_reducible apply As); (focus rfl); (focus exact Bx); (focus exact Ia G bg raw vars props (a + 1) ((t : Int) - 1) q out (([14, 17, 18, 17] : List Int)[(BZ raw (d + 1) a - 9).toNat]'hlt) 0 (by omega)); (focus exact AW); (focus rfl); (focus exact BO))
  | exact True.intro | refine AG ?_ | refine two ?_ ?_ | refine AF fun c_ => ?_
  | (refine imp fun hc => ?_) <;> try exact cx1 hc
  | refine all fun v_ => ?_)
 obtain ⟨q1, rfl⟩ : ∃ x, x = v_ := ⟨v_, rfl⟩
 repeat' (first
  | refine cag CF (N1 q1) ?_
  | exact True.intro | refine AG ?_ | refine two ?_ ?_ | refine AF fun c_ => ?_
  | (refine imp fun hc => ?_) <;> try exact cx1 hc
  | refine all fun v_ => ?_)
 refine AN (VS.take (hc := [.cells bg 145 [.d (AO raw), .int ((a + 1 + x.length : Nat) : Int), .int vars, .int props, .int (t'), .val v_.v], AH v_.v 137 2 Fo.cells (out ++ [⟨([14, 17, 18, 17] : List Int)[(BZ raw (d + 1) a - 9).toNat]'hlt, 0⟩] ++ x)]) (by exact AD) (Env.le_refl _)) ?_
 exact ⟨v_, rfl, by rw [dX, dA a ⟨([14, 17, 18, 17] : List Int)[(BZ raw (d + 1) a - 9).toNat]'hlt, 0⟩]⟩
theorem fK (hr : BH raw) (hp : 0 < props ∧ props ≤ 1000) (d a t : Nat) (t1 t2 : Int) (hd : d ≤ 100) (ht : t ≤ 100) (x y : List Fo) (q : Sl) (out : List Fo) (ha : a ≤ 400) (ho : out.length ≤ 2000) (hk : 13 ≤ Cl raw (d + 1) a t)
 (ihx : ∀ (q : Sl) (out' : List Fo), out'.length ≤ out.length + 1 → GrT 74 G bg raw vars props ((t : Int) - 1) (((d + 1 : Nat) : Int) - 1) (a + 1) q out' x (t1))
 (ihy : ∀ (q : Sl) (out' : List Fo), out'.length ≤ out.length + 1 + x.length → GrT 74 G bg raw vars props (t1) (((d + 1 : Nat) : Int) - 1) (a + 1 + x.length) q out' y (t2)) :
 GrT 74 G bg raw vars props (t) (((d + 1 : Nat) : Int)) (a) q out (⟨15 + Cl raw (d + 1) a t % 2, 0⟩ :: (x ++ y)) (t2) := by
 have hb := C9 raw (d + 1) a
 have hB4 : 4 ≤ BZ raw (d + 1) a := by rcases CV raw (d + 1) a t with ⟨_, e⟩ | ⟨_, e⟩ <;> omega
 obtain ⟨n4, ⟨p16, p4⟩, c1⟩ := Kj G raw hr d a hB4
 have hcs := CV raw (d + 1) a t
 have l1 : ∀ o : Fo, (out ++ [o]).length = out.length + 1 := fun o => by simp
 have l2 : ∀ o : Fo, (out ++ [o] ++ x).length = out.length + 1 + x.length := fun o => by simp; omega
 obtain ⟨c2, e⟩ : ¬ (8 < BZ raw (d + 1) a ∧ t = 0) ∧ Cl raw (d + 1) a t = BZ raw (d + 1) a := by
  rcases hcs with h | ⟨_, e⟩
  · exact h
  · omega
 rw [e] at hk ⊢
 have N1 := fun q1 => ihx q1 (out ++ [⟨15 + BZ raw (d + 1) a % 2, 0⟩]) (Nat.le_of_eq (l1 _))
 have N2 := fun q1 => ihy q1 (out ++ [⟨15 + BZ raw (d + 1) a % 2, 0⟩] ++ x) (Nat.le_of_eq (l2 _))
 clear hcs
 unfold GrT
 refine AJ (ts := []) Tryz.f74.ntmps Tryz.func74 rfl rfl rfl (by simp [Tryz.ntmps74]) fun W I => ?_
 repeat' (first
  | refine ca AI (p16) ?_
  | refine ca AI (p4) ?_
  | refine ca AI (Al G (tk raw a).val props hp.1 (B9 hr a).2) ?_
  | ((with_reducible apply As); (focus rfl); (focus exact Bs); (focus exact take G bg raw vars props a t q.v (by omega)); (focus exact AW); (focus rfl); (focus exact BO))
  | ((with_reducible apply As); (focus rfl); (focus exact Bx); (focus exact Ia G bg raw vars props (a + 1) ((t : Int) - 1) q out (15 + BZ raw (d + 1) a % 2) 0 (by omega)); (focus exact AW); (focus rfl); (focus exact BO))
  | exact True.intro | refine AG ?_ | refine two ?_ ?_ | refine AF fun c_ => ?_
  | (refine imp fun hc => ?_) <;> try exact cx1 hc
  | refine all fun v_ => ?_)
 obtain ⟨q1, rfl⟩ : ∃ x, x = v_ := ⟨v_, rfl⟩
 repeat' (first
  | refine cag CF (N1 q1) ?_
  | exact True.intro | refine AG ?_ | refine two ?_ ?_ | refine AF fun c_ => ?_
  | (refine imp fun hc => ?_) <;> try exact cx1 hc
  | refine all fun v_ => ?_)
 obtain ⟨q2, rfl⟩ : ∃ x, x = v_ := ⟨v_, rfl⟩
 repeat' (first
  | refine cag CF (N2 q2) ?_
  | exact True.intro | refine AG ?_ | refine two ?_ ?_ | refine AF fun c_ => ?_
  | (refine imp fun hc => ?_) <;> try exact cx1 hc
  | refine all fun v_ => ?_)
 refine AN (VS.take (hc := [.cells bg 145 [.d (AO raw), .int ((a + 1 + x.length + y.length : Nat) : Int), .int vars, .int props, .int (t2), .val v_.v], AH v_.v 137 2 Fo.cells (out ++ [⟨15 + BZ raw (d + 1) a % 2, 0⟩] ++ x ++ y)]) (by exact AD) (Env.le_refl _)) ?_
 exact ⟨v_, rfl, by rw [Vb, WT a ⟨15 + BZ raw (d + 1) a % 2, 0⟩]⟩
theorem formula (hr : BH raw) (hp : 0 < props ∧ props ≤ 1000) : ∀ (d a t : Nat) (q : Sl) (out : List Fo), a + 30 * (d + 1) ≤ 300 → out.length + 30 * (d + 1) ≤ 1900 → d ≤ 5 → t ≤ 100 → GrT 74 G bg raw vars props (t) ((d : Int)) (a) q out (Bj raw props d a t).1 (((Bj raw props d a t).2 : Int))
 | 0, a, t, q, out, ha, ho, _, ht => by
   have := (C9 raw 0 a).2.2 (.inl rfl)
   exact Ti G bg raw vars props hr hp 0 a t q out ht (by omega) (by omega) this
 | d + 1, a, t, q, out, ha, ho, hd, ht => by
   have hc : ((d + 1 : Nat) : Int) - 1 = (d : Int) := by omega
   have hb := IP raw (d + 1) a t
   have hcs := CV raw (d + 1) a t
   rw [Bj]
   by_cases k4 : Cl raw (d + 1) a t < 4
   · rw [if_pos k4]
     exact Ti G bg raw vars props hr hp (d + 1) a t q out ht (by omega) (by omega) (by rcases hcs with ⟨_, e⟩ | ⟨_, e⟩ <;> omega)
   rw [if_neg k4]
   have lenS : ∀ a' t', (Bj raw props d a' t').1.length ≤ 18 := fun a' t' => by
    have h := EH raw props d a' t'
    by_cases c : 12 ≤ a'
    · have := h.2.2 c; omega
    · have := h.2.1; omega
   have tl : ∀ a' t', (Bj raw props d a' t').2 ≤ t' := fun a' t' => by
    have := (FV raw hp.1 d a' t').2
    omega
   by_cases k6 : Cl raw (d + 1) a t < 6
   · rw [if_pos k6]
     refine di G bg raw vars props hr hp d a t _ (by omega) ht _ q out (by omega) (by omega) ⟨by omega, k6⟩ (fun q' out' ho' => ?_)
     rw [hc]
     exact formula hr hp d (a + 1) t q' out' (by omega) (by omega) (by omega) ht
   rw [if_neg k6]
   by_cases k9 : Cl raw (d + 1) a t < 9
   · rw [if_pos k9]
     refine dN G bg raw vars props hr hp d a t (Bj raw props d (a + 1) t).2 _ (by omega) ht _ _ q out (by omega) (by omega) ⟨by omega, k9⟩ (fun q' out' ho' => ?_) (fun q' out' ho' => ?_)
     · rw [hc]
       exact formula hr hp d (a + 1) t q' out' (by omega) (by omega) (by omega) ht
     · rw [hc]
       have := lenS (a + 1) t
       have := tl (a + 1) t
       exact formula hr hp d _ _ q' out' (by omega) (by omega) (by omega) (by omega)
   rw [if_neg k9]
   have ht1 : 1 ≤ t := by
    by_cases c : t = 0
    · have := hb.2.2.2 c; omega
    · omega
   have et : ((t - 1 : Nat) : Int) = (t : Int) - 1 := by omega
   by_cases k13 : Cl raw (d + 1) a t < 13
   · rw [if_pos k13]
     refine dB G bg raw vars props hr hp d a t _ (by omega) ht _ q out (by omega) (by omega) ⟨by omega, k13⟩ (fun q' out' ho' => ?_)
     rw [hc, ← et]
     exact formula hr hp d (a + 1) (t - 1) q' out' (by omega) (by omega) (by omega) (by omega)
   · rw [if_neg k13]
     refine fK G bg raw vars props hr hp d a t (Bj raw props d (a + 1) (t - 1)).2 _ (by omega) ht _ _ q out (by omega) (by omega) (by omega) (fun q' out' ho' => ?_) (fun q' out' ho' => ?_)
     · rw [hc, ← et]
       exact formula hr hp d (a + 1) (t - 1) q' out' (by omega) (by omega) (by omega) (by omega)
     · rw [hc]
       have := lenS (a + 1) (t - 1)
       have := tl (a + 1) (t - 1)
       exact formula hr hp d _ _ q' out' (by omega) (by omega) (by omega) (by omega)
end
end Go.Proofs.YtnlfhnbcdfdhgaaGreatDoor
