/- A bundle of this claim's own texts: K4. -/
import Derived.Test.YtajnpfgelpkijaaGreatDoorA3
import Derived.Test.YtajnpfgelpkijaaGreatDoorA19
set_option linter.unusedVariables false
set_option linter.unusedSimpArgs false
set_option maxRecDepth 100000
set_option maxHeartbeats 4000000
namespace Go.Sp
open Go Go.Av
def BU (raw : List Fo) (d a : Nat) : Int := if d = 0 ∨ 12 < a + 1 then pk (tk raw a).kind 4 else pk (tk raw a).kind 16
theorem dK (raw : List Fo) (d a t : Nat) : Cr raw d a t = if 8 < BU raw d a ∧ t = 0 then 4 + BU raw d a % 5 else BU raw d a := rfl
theorem DG (raw : List Fo) (d a : Nat) : 0 ≤ BU raw d a ∧ BU raw d a < 16 ∧ (d = 0 ∨ 12 < a + 1 → BU raw d a < 4) := by
 have h2 := Bc (tk raw a).kind (many := 4) (by decide)
 have h5 := Bc (tk raw a).kind (many := 16) (by decide)
 unfold BU
 split
 · exact ⟨h2.1, by omega, fun _ => h2.2⟩
 · rename_i c; exact ⟨h5.1, h5.2, fun c' => absurd c' c⟩
theorem CU (raw : List Fo) (d a t : Nat) : (¬ (8 < BU raw d a ∧ t = 0) ∧ Cr raw d a t = BU raw d a) ∨ ((8 < BU raw d a ∧ t = 0) ∧ Cr raw d a t = 4 + BU raw d a % 5) := by
 rw [dK]
 by_cases c : 8 < BU raw d a ∧ t = 0
 · exact .inr ⟨c, if_pos c⟩
 · exact .inl ⟨c, if_neg c⟩
end Go.Sp
namespace Go.Proofs.YtajnpfgelpkijaaGreatDoor
open Go Go.Av Go.Sp
theorem CG : Cal Tryz.prog 51 := Cal.of Tryz.func51 (by kernel_rfl) (by kernel_rfl)
section
variable (G : List (Nat × List D)) (bg : Nat) (raw : List Fo) (vars props : Int)
theorem Yl (hr : Bd raw) (d a : Nat) : ∃ n16 n4 : Int, (ACr Tryz.prog G 47 [.int (tk raw a).kind, .int 16] (.int n16) ∧ ACr Tryz.prog G 47 [.int (tk raw a).kind, .int 4] (.int n4)) ∧ ((d = 0 ∧ n4 = BU raw d a) ∨ (d ≠ 0 ∧ 12 < a + 1 ∧ n4 = BU raw d a) ∨ (d ≠ 0 ∧ ¬ 12 < a + 1 ∧ n16 = BU raw d a)) := by
 refine ⟨_, _, ⟨Ap G _ 16 (by decide) (B9 hr a).1, Ap G _ 4 (by decide) (B9 hr a).1⟩, ?_⟩
 unfold BU
 by_cases c0 : d = 0
 · exact .inl ⟨c0, (if_pos (.inl c0)).symm⟩
 · by_cases c1 : 12 < a + 1
   · exact .inr (.inl ⟨c0, c1, (if_pos (.inr c1)).symm⟩)
   · exact .inr (.inr ⟨c0, c1, (if_neg (fun k => k.elim c0 c1)).symm⟩)
theorem Ux (hr : Bd raw) (hp : 0 < props ∧ props ≤ 1000) (d a t : Nat) (q : Sl) (out : List Fo) (ht : t ≤ 100) (ha : a ≤ 400) (ho : out.length ≤ 2000) (hk : BU raw d a < 4) : GrT 51 G bg raw vars props (t) (d) (a) q out [SW raw props a] (t) := by
 have hb := DG raw d a
 obtain ⟨n16, n4, ⟨p16, p4⟩, e⟩ := Yl G raw hr d a
 unfold SW
 unfold GrT
 refine AK (ts := []) Tryz.f51.ntmps Tryz.func51 rfl rfl rfl (by simp [Tryz.ntmps51]) fun W I => ?_
 rcases e with ⟨c0, rfl⟩ | ⟨c0, c1, rfl⟩ | ⟨c0, c1, rfl⟩
 all_goals
  repeat' (first
   | refine ca AH (p16) ?_
   | refine ca AH (p4) ?_
   | refine ca AH (Ap G (tk raw a).val props hp.1 (B9 hr a).2) ?_
   | ((with_reducible apply Au); (focus rfl); (focus exact By); (focus exact take G bg raw vars props a t q.v (by omega)); (focus exact AS); (focus rfl); (focus exact A8))
   | ((with_reducible apply Au); (focus rfl); (focus exact Bp); (focus exact IW G bg raw vars props (a + 1) t q out 13 (pk (tk raw a).val props) (by omega)); (focus exact AS); (focus rfl); (focus exact A8))
   | exact True.intro | refine Gi ?_ | refine two ?_ ?_ | refine AG fun c_ => ?_
   | (refine imp fun hc => ?_) <;> try exact cx hc
   | refine all fun v_ => ?_)
  refine ⟨?_⟩
  refine BC [.cells bg 122 [.d (AN raw), .int ((a + 1 : Nat) : Int), .int vars, .int props, .int (t), .val q.v], AF q.v 53 2 Fo.cells (out)] mixed rfl (by (repeat ((with_reducible apply Hd.cons); (focus rfl))); exact Hd.nil) (by (repeat (with_reducible apply Aa)); exact len_nil) (by decide +kernel) (by exact AS) ?_
  repeat' (first
   | refine ca AH (p16) ?_
   | refine ca AH (p4) ?_
   | refine ca AH (Ap G (tk raw a).val props hp.1 (B9 hr a).2) ?_
   | ((with_reducible apply Au); (focus rfl); (focus exact By); (focus exact take G bg raw vars props a t q.v (by omega)); (focus exact AS); (focus rfl); (focus exact A8))
   | ((with_reducible apply Au); (focus rfl); (focus exact Bp); (focus exact IW G bg raw vars props (a + 1) t q out 13 (pk (tk raw a).val props) (by omega)); (focus exact AS); (focus rfl); (focus exact A8))
   | exact True.intro | refine AJ ?_ | refine two ?_ ?_ | refine AG fun c_ => ?_
   | (refine imp fun hc => ?_) <;> try exact cx1 hc
   | refine all fun v_ => ?_)
  refine AO (VS.take (hc := [.cells bg 122 [.d (AN raw), .int ((a + 1 : Nat) : Int), .int vars, .int props, .int (t), .val v_.v], AF v_.v 53 2 Fo.cells (out ++ [⟨13, pk (tk raw a).val props⟩])]) (by exact AB) (Env.le_refl _)) ?_
  exact ⟨v_, rfl, rfl⟩
theorem Ky (hr : Bd raw) (d a : Nat) (hk : 4 ≤ BU raw (d + 1) a) : ∃ n4 : Int, (ACr Tryz.prog G 47 [.int (tk raw a).kind, .int 16] (.int (BU raw (d + 1) a)) ∧ ACr Tryz.prog G 47 [.int (tk raw a).kind, .int 4] (.int n4)) ∧ ¬ 12 < a + 1 := by
 have hb := DG raw (d + 1) a
 obtain ⟨n16, n4, ⟨p16, p4⟩, e⟩ := Yl G raw hr (d + 1) a
 rcases e with ⟨c0, _⟩ | ⟨c0, c1, _⟩ | ⟨c0, c1, rfl⟩
 · omega
 · have := hb.2.2 (.inr c1); omega
 · exact ⟨n4, ⟨p16, p4⟩, c1⟩
theorem eY (hr : Bd raw) (hp : 0 < props ∧ props ≤ 1000) (d a t : Nat) (t' : Int) (hd : d ≤ 100) (ht : t ≤ 100) (x : List Fo) (q : Sl) (out : List Fo) (ha : a ≤ 400) (ho : out.length ≤ 2000) (hk : 4 ≤ Cr raw (d + 1) a t ∧ Cr raw (d + 1) a t < 6)
 (ihx : ∀ (q : Sl) (out' : List Fo), out'.length ≤ out.length + 1 → GrT 51 G bg raw vars props (t) (((d + 1 : Nat) : Int) - 1) (a + 1) q out' x (t')) :
 GrT 51 G bg raw vars props (t) (((d + 1 : Nat) : Int)) (a) q out (⟨10, 0⟩ :: x) (t') := by
 have hb := DG raw (d + 1) a
 have hB4 : 4 ≤ BU raw (d + 1) a := by rcases CU raw (d + 1) a t with ⟨_, e⟩ | ⟨_, e⟩ <;> omega
 obtain ⟨n4, ⟨p16, p4⟩, c1⟩ := Ky G raw hr d a hB4
 have hcs := CU raw (d + 1) a t
 have l1 : ∀ o : Fo, (out ++ [o]).length = out.length + 1 := fun o => by simp
 have N1 := fun q1 => ihx q1 (out ++ [⟨10, 0⟩]) (Nat.le_of_eq (l1 _))
 unfold GrT
 refine AK (ts := []) Tryz.f51.ntmps Tryz.func51 rfl rfl rfl (by simp [Tryz.ntmps51]) fun W I => ?_
 rcases hcs with ⟨c2, e⟩ | ⟨c2, e⟩
 all_goals
  repeat' (first
   | refine ca AH (p16) ?_
   | refine ca AH (p4) ?_
   | refine ca AH (Ap G (tk raw a).val props hp.1 (B9 hr a).2) ?_
   | ((with_reducible apply Au); (focus rfl); (focus exact By); (focus exact take G bg raw vars props a t q.v (by omega)); (focus exact AS); (focus rfl); (focus exact A8))
   | ((with_reducible apply Au); (focus rfl); (focus exact Bp); (focus exact IW G bg raw vars props (a + 1) t q out 10 0 (by omega)); (focus exact AS); (focus rfl); (focus exact A8))
   | exact True.intro | refine AJ ?_ | refine two ?_ ?_ | refine AG fun c_ => ?_
   | (refine imp fun hc => ?_) <;> try exact cx1 hc
   | refine all fun v_ => ?_)
  obtain ⟨q1, rfl⟩ : ∃ x, x = v_ := ⟨v_, rfl⟩
  repeat' (first
   | refine cag CG (N1 q1) ?_
   | exact True.intro | refine AJ ?_ | refine two ?_ ?_ | refine AG fun c_ => ?_
   | (refine imp fun hc => ?_) <;> try exact cx1 hc
   | refine all fun v_ => ?_)
  refine AO (VS.take (hc := [.cells bg 122 [.d (AN raw), .int ((a + 1 + x.length : Nat) : Int), .int vars, .int props, .int (t'), .val v_.v], AF v_.v 53 2 Fo.cells (out ++ [⟨10, 0⟩] ++ x)]) (by exact AB) (Env.le_refl _)) ?_
  exact ⟨v_, rfl, by rw [eC, fK a ⟨10, 0⟩]⟩
theorem fI (hr : Bd raw) (hp : 0 < props ∧ props ≤ 1000) (d a t : Nat) (t1 t2 : Int) (hd : d ≤ 100) (ht : t ≤ 100) (x y : List Fo) (q : Sl) (out : List Fo) (ha : a ≤ 400) (ho : out.length ≤ 2000) (hk : 6 ≤ Cr raw (d + 1) a t ∧ Cr raw (d + 1) a t < 9)
 (ihx : ∀ (q : Sl) (out' : List Fo), out'.length ≤ out.length + 1 → GrT 51 G bg raw vars props (t) (((d + 1 : Nat) : Int) - 1) (a + 1) q out' x (t1))
 (ihy : ∀ (q : Sl) (out' : List Fo), out'.length ≤ out.length + 1 + x.length → GrT 51 G bg raw vars props (t1) (((d + 1 : Nat) : Int) - 1) (a + 1 + x.length) q out' y (t2)) :
 GrT 51 G bg raw vars props (t) (((d + 1 : Nat) : Int)) (a) q out (⟨8 + Cr raw (d + 1) a t % 2, 0⟩ :: (x ++ y)) (t2) := by
 have hb := DG raw (d + 1) a
 have hB4 : 4 ≤ BU raw (d + 1) a := by rcases CU raw (d + 1) a t with ⟨_, e⟩ | ⟨_, e⟩ <;> omega
 obtain ⟨n4, ⟨p16, p4⟩, c1⟩ := Ky G raw hr d a hB4
 have hcs := CU raw (d + 1) a t
 have l1 : ∀ o : Fo, (out ++ [o]).length = out.length + 1 := fun o => by simp
 have l2 : ∀ o : Fo, (out ++ [o] ++ x).length = out.length + 1 + x.length := fun o => by simp; omega
 have N1 := fun o q1 => ihx q1 (out ++ [o]) (Nat.le_of_eq (l1 o))
 have N2 := fun o q1 => ihy q1 (out ++ [o] ++ x) (Nat.le_of_eq (l2 o))
 rcases hcs with ⟨c2, e⟩ | ⟨c2, e⟩
 · rw [e] at hk ⊢
   replace N1 := N1 ⟨8 + BU raw (d + 1) a % 2, 0⟩
   replace N2 := N2 ⟨8 + BU raw (d + 1) a % 2, 0⟩
   unfold GrT
   refine AK (ts := []) Tryz.f51.ntmps Tryz.func51 rfl rfl rfl (by simp [Tryz.ntmps51]) fun W I => ?_
   repeat' (first
    | refine ca AH (p16) ?_
    | refine ca AH (p4) ?_
    | refine ca AH (Ap G (tk raw a).val props hp.1 (B9 hr a).2) ?_
    | ((with_reducible apply Au); (focus rfl); (focus exact By); (focus exact take G bg raw vars props a t q.v (by omega)); (focus exact AS); (focus rfl); (focus exact A8))
    | ((with_reducible apply Au); (focus rfl); (focus exact Bp); (focus exact IW G bg raw vars props (a + 1) t q out (8 + BU raw (d + 1) a % 2) 0 (by omega)); (focus exact AS); (focus rfl); (focus exact A8))
    | exact True.intro | refine AJ ?_ | refine two ?_ ?_ | refine AG fun c_ => ?_
    | (refine imp fun hc => ?_) <;> try exact cx1 hc
    | refine all fun v_ => ?_)
   obtain ⟨q1, rfl⟩ : ∃ x, x = v_ := ⟨v_, rfl⟩
   repeat' (first
    | refine cag CG (N1 q1) ?_
    | exact True.intro | refine AJ ?_ | refine two ?_ ?_ | refine AG fun c_ => ?_
    | (refine imp fun hc => ?_) <;> try exact cx1 hc
    | refine all fun v_ => ?_)
   obtain ⟨q2, rfl⟩ : ∃ x, x = v_ := ⟨v_, rfl⟩
   repeat' (first
    | refine cag CG (N2 q2) ?_
    | exact True.intro | refine AJ ?_ | refine two ?_ ?_ | refine AG fun c_ => ?_
    | (refine imp fun hc => ?_) <;> try exact cx1 hc
    | refine all fun v_ => ?_)
   refine AO (VS.take (hc := [.cells bg 122 [.d (AN raw), .int ((a + 1 + x.length + y.length : Nat) : Int), .int vars, .int props, .int (t2), .val v_.v], AF v_.v 53 2 Fo.cells (out ++ [⟨8 + BU raw (d + 1) a % 2, 0⟩] ++ x ++ y)]) (by exact AB) (Env.le_refl _)) ?_
   exact ⟨v_, rfl, by rw [WM, Vm a ⟨8 + BU raw (d + 1) a % 2, 0⟩]⟩
 · rw [e] at hk ⊢
   replace N1 := N1 ⟨8 + (4 + BU raw (d + 1) a % 5) % 2, 0⟩
   replace N2 := N2 ⟨8 + (4 + BU raw (d + 1) a % 5) % 2, 0⟩
   unfold GrT
   refine AK (ts := []) Tryz.f51.ntmps Tryz.func51 rfl rfl rfl (by simp [Tryz.ntmps51]) fun W I => ?_
   repeat' (first
    | refine ca AH (p16) ?_
    | refine ca AH (p4) ?_
    | refine ca AH (Ap G (tk raw a).val props hp.1 (B9 hr a).2) ?_
    | ((with_reducible apply Au); (focus rfl); (focus exact By); (focus exact take G bg raw vars props a t q.v (by omega)); (focus exact AS); (focus rfl); (focus exact A8))
    | ((with_reducible apply Au); (focus rfl); (focus exact Bp); (focus exact IW G bg raw vars props (a + 1) t q out (8 + (4 + BU raw (d + 1) a % 5) % 2) 0 (by omega)); (focus exact AS); (focus rfl); (focus exact A8))
    | exact True.intro | refine AJ ?_ | refine two ?_ ?_ | refine AG fun c_ => ?_
    | (refine imp fun hc => ?_) <;> try exact cx1 hc
    | refine all fun v_ => ?_)
   obtain ⟨q1, rfl⟩ : ∃ x, x = v_ := ⟨v_, rfl⟩
   repeat' (first
    | refine cag CG (N1 q1) ?_
    | exact True.intro | refine AJ ?_ | refine two ?_ ?_ | refine AG fun c_ => ?_
    | (refine imp fun hc => ?_) <;> try exact cx1 hc
    | refine all fun v_ => ?_)
   obtain ⟨q2, rfl⟩ : ∃ x, x = v_ := ⟨v_, rfl⟩
   repeat' (first
    | refine cag CG (N2 q2) ?_
    | exact True.intro | refine AJ ?_ | refine two ?_ ?_ | refine AG fun c_ => ?_
    | (refine imp fun hc => ?_) <;> try exact cx1 hc
    | refine all fun v_ => ?_)
   refine AO (VS.take (hc := [.cells bg 122 [.d (AN raw), .int ((a + 1 + x.length + y.length : Nat) : Int), .int vars, .int props, .int (t2), .val v_.v], AF v_.v 53 2 Fo.cells (out ++ [⟨8 + (4 + BU raw (d + 1) a % 5) % 2, 0⟩] ++ x ++ y)]) (by exact AB) (Env.le_refl _)) ?_
   exact ⟨v_, rfl, by rw [WM, Vm a ⟨8 + (4 + BU raw (d + 1) a % 5) % 2, 0⟩]⟩
theorem eE (hr : Bd raw) (hp : 0 < props ∧ props ≤ 1000) (d a t : Nat) (t' : Int) (hd : d ≤ 100) (ht : t ≤ 100) (x : List Fo) (q : Sl) (out : List Fo) (ha : a ≤ 400) (ho : out.length ≤ 2000) (hk : 9 ≤ Cr raw (d + 1) a t ∧ Cr raw (d + 1) a t < 13)
 (ihx : ∀ (q : Sl) (out' : List Fo), out'.length ≤ out.length + 1 → GrT 51 G bg raw vars props ((t : Int) - 1) (((d + 1 : Nat) : Int) - 1) (a + 1) q out' x (t')) :
 GrT 51 G bg raw vars props (t) (((d + 1 : Nat) : Int)) (a) q out (⟨aQ (Cr raw (d + 1) a t), 0⟩ :: x) (t') := by
 have hb := DG raw (d + 1) a
 have hB4 : 4 ≤ BU raw (d + 1) a := by rcases CU raw (d + 1) a t with ⟨_, e⟩ | ⟨_, e⟩ <;> omega
 obtain ⟨n4, ⟨p16, p4⟩, c1⟩ := Ky G raw hr d a hB4
 have hcs := CU raw (d + 1) a t
 have l1 : ∀ o : Fo, (out ++ [o]).length = out.length + 1 := fun o => by simp
 have N1 := fun o q1 => ihx q1 (out ++ [o]) (Nat.le_of_eq (l1 o))
 obtain ⟨c2, e⟩ : ¬ (8 < BU raw (d + 1) a ∧ t = 0) ∧ Cr raw (d + 1) a t = BU raw (d + 1) a := by
  rcases hcs with h | ⟨_, e⟩
  · exact h
  · omega
 rw [e] at hk ⊢
 have hlt : (BU raw (d + 1) a - 9).toNat < ([14, 17, 18, 17] : List Int).length := by simp only [List.length_cons, List.length_nil]; omega
 have eT : aQ (BU raw (d + 1) a) = ([14, 17, 18, 17] : List Int)[(BU raw (d + 1) a - 9).toNat]'hlt := by
  have hK : BU raw (d + 1) a = 9 ∨ BU raw (d + 1) a = 10 ∨ BU raw (d + 1) a = 11 ∨ BU raw (d + 1) a = 12 := by omega
  clear hcs e hk c2 p16 hB4 hb
  generalize BU raw (d + 1) a = K at hK hlt
  rcases hK with rfl | rfl | rfl | rfl <;> rfl
 rw [eT]
 clear hcs
 replace N1 := N1 ⟨([14, 17, 18, 17] : List Int)[(BU raw (d + 1) a - 9).toNat]'hlt, 0⟩
 unfold GrT
 refine AK (ts := []) Tryz.f51.ntmps Tryz.func51 rfl rfl rfl (by simp [Tryz.ntmps51]) fun W I => ?_
 repeat' (first
  | refine ca AH (p16) ?_
  | refine ca AH (p4) ?_
  | refine ca AH (Ap G (tk raw a).val props hp.1 (B9 hr a).2) ?_
  | ((with_reducible apply Au); (focus rfl); (focus exact By); (focus exact take G bg raw vars props a t q.v (by omega)); (focus exact AS); (focus rfl); (focus exact A8))
  | ((with_reducible apply (Vf [14, 17, 18, 17])); (focus rfl); (focus rfl); (focus rfl); (focus (with_reducible exact ElC.h)); (focus rfl); (focus rfl); (focus rfl))
  | ((with_reducible apply Au); (focus rfl); (focus exact Bp); (focus exact IW G bg raw vars props (a + 1) ((t : Int) - 1) q out (([14, 17, 18, 17] : List Int)[(BU raw (d + 1) a - 9).toNat]'hlt) 0 (by omega)); (focus exact AS); (focus rfl); (focus exact A8))
  | exact True.intro | refine AJ ?_ | refine two ?_ ?_ | refine AG fun c_ => ?_
  | (refine imp fun hc => ?_) <;> try exact cx1 hc
  | refine all fun v_ => ?_)
 obtain ⟨q1, rfl⟩ : ∃ x, x = v_ := ⟨v_, rfl⟩
 repeat' (first
  | refine cag CG (N1 q1) ?_
  | exact True.intro | refine AJ ?_ | refine two ?_ ?_ | refine AG fun c_ => ?_
  | (refine imp fun hc => ?_) <;> try exact cx1 hc
  | refine all fun v_ => ?_)
 refine AO (VS.take (hc := [.cells bg 122 [.d (AN raw), .int ((a + 1 + x.length : Nat) : Int), .int vars, .int props, .int (t'), .val v_.v], AF v_.v 53 2 Fo.cells (out ++ [⟨([14, 17, 18, 17] : List Int)[(BU raw (d + 1) a - 9).toNat]'hlt, 0⟩] ++ x)]) (by exact AB) (Env.le_refl _)) ?_
 exact ⟨v_, rfl, by rw [eC, fK a ⟨([14, 17, 18, 17] : List Int)[(BU raw (d + 1) a - 9).toNat]'hlt, 0⟩]⟩
theorem fh (hr : Bd raw) (hp : 0 < props ∧ props ≤ 1000) (d a t : Nat) (t1 t2 : Int) (hd : d ≤ 100) (ht : t ≤ 100) (x y : List Fo) (q : Sl) (out : List Fo) (ha : a ≤ 400) (ho : out.length ≤ 2000) (hk : 13 ≤ Cr raw (d + 1) a t)
 (ihx : ∀ (q : Sl) (out' : List Fo), out'.length ≤ out.length + 1 → GrT 51 G bg raw vars props ((t : Int) - 1) (((d + 1 : Nat) : Int) - 1) (a + 1) q out' x (t1))
 (ihy : ∀ (q : Sl) (out' : List Fo), out'.length ≤ out.length + 1 + x.length → GrT 51 G bg raw vars props (t1) (((d + 1 : Nat) : Int) - 1) (a + 1 + x.length) q out' y (t2)) :
 GrT 51 G bg raw vars props (t) (((d + 1 : Nat) : Int)) (a) q out (⟨15 + Cr raw (d + 1) a t % 2, 0⟩ :: (x ++ y)) (t2) := by
 have hb := DG raw (d + 1) a
 have hB4 : 4 ≤ BU raw (d + 1) a := by rcases CU raw (d + 1) a t with ⟨_, e⟩ | ⟨_, e⟩ <;> omega
 obtain ⟨n4, ⟨p16, p4⟩, c1⟩ := Ky G raw hr d a hB4
 have hcs := CU raw (d + 1) a t
 have l1 : ∀ o : Fo, (out ++ [o]).length = out.length + 1 := fun o => by simp
 have l2 : ∀ o : Fo, (out ++ [o] ++ x).length = out.length + 1 + x.length := fun o => by simp; omega
 obtain ⟨c2, e⟩ : ¬ (8 < BU raw (d + 1) a ∧ t = 0) ∧ Cr raw (d + 1) a t = BU raw (d + 1) a := by
  rcases hcs with h | ⟨_, e⟩
  · exact h
  · omega
 rw [e] at hk ⊢
 have N1 := fun q1 => ihx q1 (out ++ [⟨15 + BU raw (d + 1) a % 2, 0⟩]) (Nat.le_of_eq (l1 _))
 have N2 := fun q1 => ihy q1 (out ++ [⟨15 + BU raw (d + 1) a % 2, 0⟩] ++ x) (Nat.le_of_eq (l2 _))
 clear hcs
 unfold GrT
 refine AK (ts := []) Tryz.f51.ntmps Tryz.func51 rfl rfl rfl (by simp [Tryz.ntmps51]) fun W I => ?_
 repeat' (first
  | refine ca AH (p16) ?_
  | refine ca AH (p4) ?_
  | refine ca AH (Ap G (tk raw a).val props hp.1 (B9 hr a).2) ?_
  | ((with_reducible apply Au); (focus rfl); (focus exact By); (focus exact take G bg raw vars props a t q.v (by omega)); (focus exact AS); (focus rfl); (focus exact A8))
  | ((with_reducible apply Au); (focus rfl); (focus exact Bp); (focus exact IW G bg raw vars props (a + 1) ((t : Int) - 1) q out (15 + BU raw (d + 1) a % 2) 0 (by omega)); (focus exact AS); (focus rfl); (focus exact A8))
  | exact True.intro | refine AJ ?_ | refine two ?_ ?_ | refine AG fun c_ => ?_
  | (refine imp fun hc => ?_) <;> try exact cx1 hc
  | refine all fun v_ => ?_)
 obtain ⟨q1, rfl⟩ : ∃ x, x = v_ := ⟨v_, rfl⟩
 repeat' (first
  | refine cag CG (N1 q1) ?_
  | exact True.intro | refine AJ ?_ | refine two ?_ ?_ | refine AG fun c_ => ?_
  | (refine imp fun hc => ?_) <;> try exact cx1 hc
  | refine all fun v_ => ?_)
 obtain ⟨q2, rfl⟩ : ∃ x, x = v_ := ⟨v_, rfl⟩
 repeat' (first
  | refine cag CG (N2 q2) ?_
  | exact True.intro | refine AJ ?_ | refine two ?_ ?_ | refine AG fun c_ => ?_
  | (refine imp fun hc => ?_) <;> try exact cx1 hc
  | refine all fun v_ => ?_)
 refine AO (VS.take (hc := [.cells bg 122 [.d (AN raw), .int ((a + 1 + x.length + y.length : Nat) : Int), .int vars, .int props, .int (t2), .val v_.v], AF v_.v 53 2 Fo.cells (out ++ [⟨15 + BU raw (d + 1) a % 2, 0⟩] ++ x ++ y)]) (by exact AB) (Env.le_refl _)) ?_
 exact ⟨v_, rfl, by rw [WM, Vm a ⟨15 + BU raw (d + 1) a % 2, 0⟩]⟩
theorem formula (hr : Bd raw) (hp : 0 < props ∧ props ≤ 1000) : ∀ (d a t : Nat) (q : Sl) (out : List Fo), a + 30 * (d + 1) ≤ 300 → out.length + 30 * (d + 1) ≤ 1900 → d ≤ 5 → t ≤ 100 → GrT 51 G bg raw vars props (t) ((d : Int)) (a) q out (Bf raw props d a t).1 (((Bf raw props d a t).2 : Int))
 | 0, a, t, q, out, ha, ho, _, ht => by
   have := (DG raw 0 a).2.2 (.inl rfl)
   exact Ux G bg raw vars props hr hp 0 a t q out ht (by omega) (by omega) this
 | d + 1, a, t, q, out, ha, ho, hd, ht => by
   have hc : ((d + 1 : Nat) : Int) - 1 = (d : Int) := by omega
   have hb := Ip raw (d + 1) a t
   have hcs := CU raw (d + 1) a t
   rw [Bf]
   by_cases k4 : Cr raw (d + 1) a t < 4
   · rw [if_pos k4]
     exact Ux G bg raw vars props hr hp (d + 1) a t q out ht (by omega) (by omega) (by rcases hcs with ⟨_, e⟩ | ⟨_, e⟩ <;> omega)
   rw [if_neg k4]
   have lenS : ∀ a' t', (Bf raw props d a' t').1.length ≤ 18 := fun a' t' => by
    have h := D8 raw props d a' t'
    by_cases c : 12 ≤ a'
    · have := h.2.2 c; omega
    · have := h.2.1; omega
   have tl : ∀ a' t', (Bf raw props d a' t').2 ≤ t' := fun a' t' => by
    have := (FL raw hp.1 d a' t').2
    omega
   by_cases k6 : Cr raw (d + 1) a t < 6
   · rw [if_pos k6]
     refine eY G bg raw vars props hr hp d a t _ (by omega) ht _ q out (by omega) (by omega) ⟨by omega, k6⟩ (fun q' out' ho' => ?_)
     rw [hc]
     exact formula hr hp d (a + 1) t q' out' (by omega) (by omega) (by omega) ht
   rw [if_neg k6]
   by_cases k9 : Cr raw (d + 1) a t < 9
   · rw [if_pos k9]
     refine fI G bg raw vars props hr hp d a t (Bf raw props d (a + 1) t).2 _ (by omega) ht _ _ q out (by omega) (by omega) ⟨by omega, k9⟩ (fun q' out' ho' => ?_) (fun q' out' ho' => ?_)
     · rw [hc]
       exact formula hr hp d (a + 1) t q' out' (by omega) (by omega) (by omega) ht
     · rw [hc]
       have := lenS (a + 1) t
       have := tl (a + 1) t
       exact formula hr hp d _ _ q' out' (by omega) (by omega) (by omega) (by omega)
   rw [if_neg k9]
   have ht1 : 1 ≤ t := by
    by_cases c : t = 0
    · have := hb.2.2.2 c; omega
    · omega
   have et : ((t - 1 : Nat) : Int) = (t : Int) - 1 := by omega
   by_cases k13 : Cr raw (d + 1) a t < 13
   · rw [if_pos k13]
     refine eE G bg raw vars props hr hp d a t _ (by omega) ht _ q out (by omega) (by omega) ⟨by omega, k13⟩ (fun q' out' ho' => ?_)
     rw [hc, ← et]
     exact formula hr hp d (a + 1) (t - 1) q' out' (by omega) (by omega) (by omega) (by omega)
   · rw [if_neg k13]
     refine fh G bg raw vars props hr hp d a t (Bf raw props d (a + 1) (t - 1)).2 _ (by omega) ht _ _ q out (by omega) (by omega) (by omega) (fun q' out' ho' => ?_) (fun q' out' ho' => ?_)
     · rw [hc, ← et]
       exact formula hr hp d (a + 1) (t - 1) q' out' (by omega) (by omega) (by omega) (by omega)
     · rw [hc]
       have := lenS (a + 1) (t - 1)
       have := tl (a + 1) (t - 1)
       exact formula hr hp d _ _ q' out' (by omega) (by omega) (by omega) (by omega)
end
end Go.Proofs.YtajnpfgelpkijaaGreatDoor
