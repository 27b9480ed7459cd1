/- A bundle of this claim's own texts: T0 G50 T3 H2 G13. -/
import Derived.Test.YtajnpfgelpkijaaGreatDoorA3
import Derived.Test.YtajnpfgelpkijaaGreatDoorA4
import Derived.Test.YtajnpfgelpkijaaGreatDoorA5
import Derived.Test.YtajnpfgelpkijaaGreatDoorA6
import Derived.Test.YtajnpfgelpkijaaGreatDoorA7
set_option linter.unusedVariables false
set_option linter.unusedSimpArgs false
set_option maxRecDepth 100000
set_option maxHeartbeats 4000000
namespace Go.Proofs.YtajnpfgelpkijaaGreatDoor
open Go Go.Av Go.Sp

end Go.Proofs.YtajnpfgelpkijaaGreatDoor
namespace Go.Sp
open Go Go.Av
structure Tk where
 model : Md
 props : List (List Fo)
 formula : List Fo
abbrev tkA (t : Tk) : AV := .agg [.d (Ba t.model.vars), .d (BH t.model.rules), .d (Bi t.props), .d (AN t.formula)]
noncomputable def A2 (t : Tk) : Int := if CS t.model t.props ≠ 0 then CS t.model t.props else DS t.formula t.props.length
theorem CA {t : Tk} (h : A2 t = 0) : CS t.model t.props = 0 ∧ DS t.formula t.props.length = 0 ∧ Ah t.model = 0 := by
 unfold A2 at h
 by_cases c : CS t.model t.props ≠ 0
 · rw [if_pos c] at h; exact absurd h c
 · rw [if_neg c] at h
   exact ⟨Decidable.not_not.1 c, h, (MB (Decidable.not_not.1 c)).1⟩
end Go.Sp
namespace Go.Proofs.YtajnpfgelpkijaaGreatDoor
open Go Go.Av Go.Sp

end Go.Proofs.YtajnpfgelpkijaaGreatDoor
namespace Go.Sp
open Go Go.Av

inductive WfE (K : Fo → Prop) : Bool → List Fo → Prop
 | leaf {o : Fo} (k : K o) (h : partsOf o.kind = (0, 0)) : WfE K (decide (DE o.kind)) [o]
 | one {o : Fo} {a : List Fo} (k : K o) (h : partsOf o.kind = (1, 0)) (ha : WfE K (decide (GJ o.kind)) a) : WfE K (decide (DE o.kind)) (o :: a)
 | two {o : Fo} {a b : List Fo} (k : K o) (h : partsOf o.kind = (2, 0)) (ha : WfE K (decide (GJ o.kind)) a) (hb : WfE K (decide (GJ o.kind)) b) : WfE K (decide (DE o.kind)) (o :: (a ++ b))
section
variable {K : Fo → Prop} {l : List Fo} {b : Bool}
theorem WfE.wf (w : WfE K b l) : Wf K l := by
 induction w with
 | leaf k h => exact .leaf k h
 | one k h _ ih => exact .one k h ih
 | two k h _ _ iha ihb => exact .two k h iha ihb
theorem WfE.head (w : WfE K b l) (p r : List Fo) : decide (DE (AW (p ++ l ++ r) p.length)) = b := by
 cases w with
 | @leaf o k h => rw [show p ++ [o] ++ r = p ++ o :: r by simp, DO]
 | @one o a k h ha => rw [show p ++ (o :: a) ++ r = p ++ o :: (a ++ r) by simp, DO]
 | @two o a c k h ha hb => rw [show p ++ (o :: (a ++ c)) ++ r = p ++ o :: (a ++ c ++ r) by simp, DO]
theorem IS {p q : Prop} [Decidable p] [Decidable q] (h : decide p = decide q) : p ↔ q := by
 by_cases hp : p
 · rw [decide_eq_true hp] at h; exact ⟨fun _ => of_decide_eq_true h.symm, fun _ => hp⟩
 · rw [decide_eq_false hp] at h; exact ⟨fun c => absurd c hp, fun c => absurd c (of_decide_eq_false h.symm)⟩
theorem WfE.typed (w : WfE K b l) : ∀ (p r : List Fo) (i : Nat), p.length ≤ i → i < p.length + l.length → Oz (p ++ l ++ r) i := by
 induction w with
 | @leaf o k h =>
   intro p r i h1 h2
   rw [List.length_singleton] at h2
   obtain rfl : i = p.length := by omega
   have e : p ++ [o] ++ r = p ++ o :: r := by simp
   unfold Oz
   rw [e, DO, h]
   intro q hq
   exact absurd hq (by simp [EB])
 | @one o a k h ha ih =>
   intro p r i h1 h2
   have e : p ++ (o :: a) ++ r = p ++ o :: (a ++ r) := by simp
   have f : p ++ [o] ++ a ++ r = p ++ o :: (a ++ r) := by simp
   rw [e]
   by_cases c : i = p.length
   · subst c
     unfold Oz
     rw [DO, h]
     intro q hq
     have hq : q = p.length + 1 := by simpa [EB] using hq
     subst hq
     have := ha.head (p ++ [o]) r
     rw [f, List.length_append, List.length_singleton] at this
     unfold JS
     rw [DO]
     exact IS this
   · have := ih (p ++ [o]) r i (by rw [List.length_append, List.length_singleton]; omega) (by rw [List.length_append, List.length_singleton]; rw [List.length_cons] at h2; omega)
     rwa [f] at this
 | @two o a c k h ha hb iha ihb =>
   intro p r i h1 h2
   rw [List.length_cons, List.length_append] at h2
   have e : p ++ (o :: (a ++ c)) ++ r = p ++ o :: (a ++ (c ++ r)) := by simp
   have f : p ++ [o] ++ a ++ (c ++ r) = p ++ o :: (a ++ (c ++ r)) := by simp
   have g : p ++ [o] ++ a ++ c ++ r = p ++ o :: (a ++ (c ++ r)) := by simp
   rw [e]
   have hl : (p ++ [o]).length = p.length + 1 := by simp
   have hl2 : (p ++ [o] ++ a).length = p.length + 1 + a.length := by simp; omega
   by_cases c0 : i = p.length
   · subst c0
     have he := ha.wf.endE (p ++ [o]) (c ++ r)
     rw [f, hl] at he
     have k1 := ha.head (p ++ [o]) (c ++ r)
     rw [f, hl] at k1
     have k2 := hb.head (p ++ [o] ++ a) r
     rw [g, hl2] at k2
     unfold Oz
     rw [DO, h]
     intro q hq
     have hq : q = p.length + 1 ∨ q = p.length + 1 + a.length := by
      simp only [EB, show (2 : Int).toNat = 1 + 1 from rfl, List.mem_cons, List.not_mem_nil, or_false] at hq
      rw [he, Int.toNat_natCast] at hq
      exact hq
     unfold JS
     rw [DO]
     rcases hq with rfl | rfl
     · exact IS k1
     · exact IS k2
   · by_cases c1 : i < p.length + 1 + a.length
     · have := iha (p ++ [o]) (c ++ r) i (by omega) (by omega)
       rwa [f] at this
     · have := ihb (p ++ [o] ++ a) r i (by omega) (by omega)
       rwa [g] at this
abbrev ExK (n : Int) (o : Fo) : Prop := opZ o.kind o.val n = 0
theorem SD (n : Int) : ∀ l : List Fo, (∀ o ∈ l, ExK n o) → II l n = 0
 | [], _ => rfl
 | o :: r, h => by
   rw [II, if_neg (fun c => c (h o List.mem_cons_self))]
   exact SD n r fun x hx => h x (List.mem_cons_of_mem _ hx)
theorem WfE.expr {n : Int} (w : WfE (ExK n) b l) (h60 : l.length ≤ 60) (hn : 0 ≤ n ∧ n ≤ 6) : Cn l n = (b, 0) := by
 have ht : Ig l := fun i hi => by
  have := w.typed [] [] i (Nat.zero_le _) (by simpa using hi)
  rwa [List.nil_append, List.append_nil] at this
 have hd := w.head [] []
 rw [List.nil_append, List.append_nil, List.length_nil] at hd
 unfold Cn
 rw [if_neg (by omega), if_neg (fun c => c (w.wf.ends h60)), if_neg (fun c => c (SD n l w.wf.all)), if_pos ht, hd]
theorem WfE.kind0 {n : Int} (w : WfE (ExK n) b l) (h60 : l.length ≤ 60) (hn : 0 ≤ n ∧ n ≤ 6) : CF l n b = 0 := by
 unfold CF
 rw [w.expr h60 hn]
 simp
end
def pk (n many : Int) : Int := (if n < 0 then -(n + 1) else n) % many
theorem Bc (n : Int) {many : Int} (h : 0 < many) : 0 ≤ pk n many ∧ pk n many < many :=
 ⟨Int.emod_nonneg _ (by omega), Int.emod_lt_of_pos _ h⟩
def tk (raw : List Fo) (a : Nat) : Fo := (raw[a]?).getD ⟨0, 0⟩
def Dy (raw : List Fo) (d a : Nat) : Int := if d = 0 ∨ 14 < a + 1 then pk (tk raw a).kind 2 else pk (tk raw a).kind 5
def SO (raw : List Fo) (vars : Int) (a : Nat) (k : Int) : Fo := if k = 1 ∧ 0 < vars then ⟨2, pk (tk raw a).val vars⟩ else ⟨1, pk (tk raw a).val 9 - 4⟩
def BZ (raw : List Fo) (vars : Int) : Nat → Nat → List Fo
 | 0, a => [SO raw vars a (Dy raw 0 a)]
 | d + 1, a => if Dy raw (d + 1) a < 2 then [SO raw vars a (Dy raw (d + 1) a)] else ⟨Dy raw (d + 1) a + 1, 0⟩ :: (BZ raw vars d (a + 1) ++ BZ raw vars d (a + 1 + (BZ raw vars d (a + 1)).length))
theorem GC (raw : List Fo) (d a : Nat) : 0 ≤ Dy raw d a ∧ Dy raw d a < 5 ∧ (d = 0 → Dy raw d a < 2) := by
 have h2 := Bc (tk raw a).kind (many := 2) (by decide)
 have h5 := Bc (tk raw a).kind (many := 5) (by decide)
 unfold Dy
 split
 · exact ⟨h2.1, by omega, fun _ => h2.2⟩
 · exact ⟨h5.1, h5.2, fun c => by omega⟩
theorem ZK (raw : List Fo) {vars : Int} (a : Nat) (k : Int) : ExK vars (SO raw vars a k) ∧ partsOf (SO raw vars a k).kind = (0, 0) ∧ decide (DE (SO raw vars a k).kind) = false := by
 have h9 := Bc (tk raw a).val (many := 9) (by decide)
 unfold SO
 split
 · rename_i h
   have hv := Bc (tk raw a).val h.2
   refine ⟨?_, rfl, rfl⟩
   unfold ExK opZ
   dsimp only
   rw [if_neg (by omega), if_neg (by omega)]
 · refine ⟨?_, rfl, rfl⟩
   unfold ExK opZ
   dsimp only
   rw [if_neg (by omega), if_neg (by omega)]
theorem NC {vars k : Int} (h : 3 ≤ k ∧ k ≤ 12) : ExK vars ⟨k, 0⟩ := by
 unfold ExK opZ
 dsimp only
 rw [if_neg (by omega), if_neg (by omega)]
theorem Iy (raw : List Fo) (vars : Int) : ∀ (d a : Nat), WfE (ExK vars) false (BZ raw vars d a)
 | 0, a => by
   obtain ⟨h1, h2, h3⟩ := ZK raw (vars := vars) a (Dy raw 0 a)
   rw [BZ, ← h3]; exact .leaf h1 h2
 | d + 1, a => by
   rw [BZ]
   split
   · obtain ⟨h1, h2, h3⟩ := ZK raw (vars := vars) a (Dy raw (d + 1) a)
     rw [← h3]; exact .leaf h1 h2
   · rename_i h
     have hb := GC raw (d + 1) a
     have w1 := Iy raw vars d (a + 1)
     have w2 := Iy raw vars d (a + 1 + (BZ raw vars d (a + 1)).length)
     have hk : Dy raw (d + 1) a = 2 ∨ Dy raw (d + 1) a = 3 ∨ Dy raw (d + 1) a = 4 := by omega
     generalize BZ raw vars d (a + 1) = x at w1 w2 ⊢
     generalize BZ raw vars d (a + 1 + x.length) = y at w2 ⊢
     rcases hk with e | e | e
     · rw [e]; exact .two (o := ⟨2 + 1, 0⟩) (NC (by decide)) rfl w1 w2
     · rw [e]; exact .two (o := ⟨3 + 1, 0⟩) (NC (by decide)) rfl w1 w2
     · rw [e]; exact .two (o := ⟨4 + 1, 0⟩) (NC (by decide)) rfl w1 w2
theorem HE (raw : List Fo) (vars : Int) : ∀ (d a : Nat), 1 ≤ (BZ raw vars d a).length ∧ (BZ raw vars d a).length + 1 ≤ 2 ^ (d + 1)
 | 0, a => by simp [BZ]
 | d + 1, a => by
   have h1 := HE raw vars d (a + 1)
   have h2 := HE raw vars d (a + 1 + (BZ raw vars d (a + 1)).length)
   have e : 2 ^ (d + 1 + 1) = 2 * 2 ^ (d + 1) := by rw [Nat.pow_succ]; omega
   rw [BZ]
   split
   · simp only [List.length_singleton]; omega
   · simp only [List.length_cons, List.length_append]; omega
theorem LU (raw : List Fo) (vars : Int) (a : Nat) : (BZ raw vars 1 a).length ≤ 3 := by
 have := (HE raw vars 1 a).2
 omega
theorem Lh (raw : List Fo) (vars : Int) (a : Nat) : (BZ raw vars 2 a).length ≤ 7 := by
 have := (HE raw vars 2 a).2
 omega
def B1 (raw : List Fo) (d a : Nat) : Int := if d = 0 ∨ 10 < a + 1 then pk (tk raw a).kind 3 else pk (tk raw a).kind 9
def Oo (raw : List Fo) (vars : Int) (a : Nat) (k : Int) : List Fo :=
 if k = 0 then [⟨11 + pk (tk raw a).val 2, 0⟩] else ⟨6 + k % 2, 0⟩ :: (BZ raw vars 1 (a + 1) ++ BZ raw vars 1 (a + 1 + (BZ raw vars 1 (a + 1)).length))
def Db (raw : List Fo) (vars : Int) : Nat → Nat → List Fo
 | 0, a => Oo raw vars a (B1 raw 0 a)
 | d + 1, a =>
   if B1 raw (d + 1) a < 5 then Oo raw vars a (B1 raw (d + 1) a)
   else if B1 raw (d + 1) a = 5 then ⟨10, 0⟩ :: Db raw vars d (a + 1)
   else ⟨8 + B1 raw (d + 1) a % 2, 0⟩ :: (Db raw vars d (a + 1) ++ Db raw vars d (a + 1 + (Db raw vars d (a + 1)).length))
theorem Dl (raw : List Fo) (d a : Nat) : 0 ≤ B1 raw d a ∧ B1 raw d a < 9 ∧ (d = 0 ∨ 10 < a + 1 → B1 raw d a < 3) := by
 have h2 := Bc (tk raw a).kind (many := 3) (by decide)
 have h5 := Bc (tk raw a).kind (many := 9) (by decide)
 unfold B1
 split
 · exact ⟨h2.1, by omega, fun _ => h2.2⟩
 · rename_i c; exact ⟨h5.1, h5.2, fun c' => absurd c' c⟩
theorem U1 (raw : List Fo) (vars : Int) (a : Nat) (k : Int) : WfE (ExK vars) true (Oo raw vars a k) := by
 unfold Oo
 split
 · have h2 := Bc (tk raw a).val (many := 2) (by decide)
   have : pk (tk raw a).val 2 = 0 ∨ pk (tk raw a).val 2 = 1 := by omega
   rcases this with e | e
   · rw [e]; exact .leaf (o := ⟨11 + 0, 0⟩) (NC (by decide)) rfl
   · rw [e]; exact .leaf (o := ⟨11 + 1, 0⟩) (NC (by decide)) rfl
 · have w1 := Iy raw vars 1 (a + 1)
   have w2 := Iy raw vars 1 (a + 1 + (BZ raw vars 1 (a + 1)).length)
   have : k % 2 = 0 ∨ k % 2 = 1 := by omega
   rcases this with e | e
   · rw [e]; exact .two (o := ⟨6 + 0, 0⟩) (NC (by decide)) rfl w1 w2
   · rw [e]; exact .two (o := ⟨6 + 1, 0⟩) (NC (by decide)) rfl w1 w2
theorem Rm (raw : List Fo) (vars : Int) (a : Nat) (k : Int) : 1 ≤ (Oo raw vars a k).length ∧ (Oo raw vars a k).length ≤ 7 := by
 have h1 := LU raw vars (a + 1)
 have h2 := LU raw vars (a + 1 + (BZ raw vars 1 (a + 1)).length)
 unfold Oo
 split
 · simp
 · simp only [List.length_cons, List.length_append]; omega
theorem O7 (raw : List Fo) (vars : Int) : ∀ (d a : Nat), WfE (ExK vars) true (Db raw vars d a)
 | 0, a => U1 _ _ _ _
 | d + 1, a => by
   have w1 := O7 raw vars d (a + 1)
   have w2 := O7 raw vars d (a + 1 + (Db raw vars d (a + 1)).length)
   rw [Db]
   split
   · exact U1 _ _ _ _
   · split
     · exact .one (o := ⟨10, 0⟩) (NC (by decide)) rfl w1
     · have : B1 raw (d + 1) a % 2 = 0 ∨ B1 raw (d + 1) a % 2 = 1 := by omega
       rcases this with e | e
       · rw [e]; exact .two (o := ⟨8 + 0, 0⟩) (NC (by decide)) rfl w1 w2
       · rw [e]; exact .two (o := ⟨8 + 1, 0⟩) (NC (by decide)) rfl w1 w2
theorem JI (raw : List Fo) (vars : Int) : ∀ (d a : Nat), 1 ≤ (Db raw vars d a).length ∧ a + (Db raw vars d a).length ≤ max a 10 + 7 * (d + 1) ∧ (10 ≤ a → (Db raw vars d a).length ≤ 7)
 | 0, a => by
   have := Rm raw vars a (B1 raw 0 a)
   rw [Db]
   refine ⟨this.1, by omega, fun _ => this.2⟩
 | d + 1, a => by
   have h1 := JI raw vars d (a + 1)
   have h2 := JI raw vars d (a + 1 + (Db raw vars d (a + 1)).length)
   have hb := Dl raw (d + 1) a
   have ht := Rm raw vars a (B1 raw (d + 1) a)
   rw [Db]
   split
   · exact ⟨ht.1, by omega, fun _ => ht.2⟩
   · rename_i c
     have ha : a < 10 := by
      by_cases hh : 10 < a + 1
      · have := hb.2.2 (.inr hh); omega
      · omega
     split
     · simp only [List.length_cons]
       refine ⟨by omega, by omega, fun _ => by omega⟩
     · simp only [List.length_cons, List.length_append]
       refine ⟨by omega, ?_, fun _ => by omega⟩
       by_cases hc : 10 ≤ a + 1 + (Db raw vars d (a + 1)).length
       · have := h2.2.2 hc; omega
       · omega
theorem IQ (raw : List Fo) (vars : Int) : (Db raw vars 3 0).length ≤ 38 := by
 have := (JI raw vars 3 0).2.1
 omega
def Cr (raw : List Fo) (d a t : Nat) : Int :=
 if 8 < (if d = 0 ∨ 12 < a + 1 then pk (tk raw a).kind 4 else pk (tk raw a).kind 16) ∧ t = 0 then 4 + (if d = 0 ∨ 12 < a + 1 then pk (tk raw a).kind 4 else pk (tk raw a).kind 16) % 5
 else (if d = 0 ∨ 12 < a + 1 then pk (tk raw a).kind 4 else pk (tk raw a).kind 16)
def aQ (k : Int) : Int := if k = 9 then 14 else if k = 11 then 18 else 17
def SW (raw : List Fo) (props : Int) (a : Nat) : Fo := ⟨13, pk (tk raw a).val props⟩
def Bf (raw : List Fo) (props : Int) : Nat → Nat → Nat → List Fo × Nat
 | 0, a, t => ([SW raw props a], t)
 | d + 1, a, t =>
   if Cr raw (d + 1) a t < 4 then ([SW raw props a], t)
   else if Cr raw (d + 1) a t < 6 then (⟨10, 0⟩ :: (Bf raw props d (a + 1) t).1, (Bf raw props d (a + 1) t).2)
   else if Cr raw (d + 1) a t < 9 then
    (⟨8 + Cr raw (d + 1) a t % 2, 0⟩ :: ((Bf raw props d (a + 1) t).1 ++ (Bf raw props d (a + 1 + (Bf raw props d (a + 1) t).1.length) (Bf raw props d (a + 1) t).2).1), (Bf raw props d (a + 1 + (Bf raw props d (a + 1) t).1.length) (Bf raw props d (a + 1) t).2).2)
   else if Cr raw (d + 1) a t < 13 then (⟨aQ (Cr raw (d + 1) a t), 0⟩ :: (Bf raw props d (a + 1) (t - 1)).1, (Bf raw props d (a + 1) (t - 1)).2)
   else (⟨15 + Cr raw (d + 1) a t % 2, 0⟩ :: ((Bf raw props d (a + 1) (t - 1)).1 ++ (Bf raw props d (a + 1 + (Bf raw props d (a + 1) (t - 1)).1.length) (Bf raw props d (a + 1) (t - 1)).2).1), (Bf raw props d (a + 1 + (Bf raw props d (a + 1) (t - 1)).1.length) (Bf raw props d (a + 1) (t - 1)).2).2)
theorem Ip (raw : List Fo) (d a t : Nat) : 0 ≤ Cr raw d a t ∧ Cr raw d a t < 16 ∧ (d = 0 ∨ 12 < a + 1 → Cr raw d a t < 4) ∧ (t = 0 → Cr raw d a t < 9) := by
 have h2 := Bc (tk raw a).kind (many := 4) (by decide)
 have h5 := Bc (tk raw a).kind (many := 16) (by decide)
 have hk : 0 ≤ (if d = 0 ∨ 12 < a + 1 then pk (tk raw a).kind 4 else pk (tk raw a).kind 16) ∧ (if d = 0 ∨ 12 < a + 1 then pk (tk raw a).kind 4 else pk (tk raw a).kind 16) < 16 ∧ (d = 0 ∨ 12 < a + 1 → (if d = 0 ∨ 12 < a + 1 then pk (tk raw a).kind 4 else pk (tk raw a).kind 16) < 4) := by
  split
  · exact ⟨h2.1, by omega, fun _ => h2.2⟩
  · rename_i c; exact ⟨h5.1, h5.2, fun c' => absurd c' c⟩
 unfold Cr
 generalize (if d = 0 ∨ 12 < a + 1 then pk (tk raw a).kind 4 else pk (tk raw a).kind 16) = k at hk ⊢
 split
 · rename_i c
   refine ⟨by omega, by omega, fun h => ?_, fun _ => by omega⟩
   have := hk.2.2 h; omega
 · rename_i c
   refine ⟨hk.1, hk.2.1, hk.2.2, fun h => ?_⟩
   by_cases h8 : 8 < k
   · exact absurd ⟨h8, h⟩ c
   · omega
theorem P9 {p k : Int} (h : 8 ≤ k ∧ k ≠ 13) : FoK p ⟨k, 0⟩ := by
 unfold FoK D1
 dsimp only
 rw [if_neg (by omega), if_neg (by omega)]
theorem ZI (raw : List Fo) {p : Int} (hp : 0 < p) (a : Nat) : FoK p (SW raw p a) := by
 have h := Bc (tk raw a).val hp
 unfold SW FoK D1
 dsimp only
 rw [if_neg (by omega), if_neg (by omega)]
theorem Uy : nAh [] = 0 := rfl
theorem FL (raw : List Fo) {p : Int} (hp : 0 < p) : ∀ (d a t : Nat), Wf (FoK p) (Bf raw p d a t).1 ∧ nAh (Bf raw p d a t).1 + (Bf raw p d a t).2 ≤ t
 | 0, a, t => ⟨.leaf (ZI raw hp a) rfl, by rw [Bf, EZ, Uy, if_neg (by unfold SW AU; dsimp only; omega)]; omega⟩
 | d + 1, a, t => by
   have hb := Ip raw (d + 1) a t
   rw [Bf]
   split
   · exact ⟨.leaf (ZI raw hp a) rfl, by rw [EZ, Uy, if_neg (by unfold SW AU; dsimp only; omega)]; omega⟩
   split
   · obtain ⟨w, h⟩ := FL raw hp d (a + 1) t
     refine ⟨.one (o := ⟨10, 0⟩) (P9 (by decide)) rfl w, ?_⟩
     rw [EZ, if_neg (by unfold AU; dsimp only; omega)]; dsimp only; omega
   split
   · obtain ⟨w1, h1⟩ := FL raw hp d (a + 1) t
     obtain ⟨w2, h2⟩ := FL raw hp d (a + 1 + (Bf raw p d (a + 1) t).1.length) (Bf raw p d (a + 1) t).2
     generalize Bf raw p d (a + 1) t = x at w1 h1 w2 h2 ⊢
     generalize Bf raw p d (a + 1 + x.1.length) x.2 = y at w2 h2 ⊢
     have : Cr raw (d + 1) a t % 2 = 0 ∨ Cr raw (d + 1) a t % 2 = 1 := by omega
     refine ⟨?_, ?_⟩
     · rcases this with e | e
       · rw [e]; exact .two (o := ⟨8 + 0, 0⟩) (P9 (by decide)) rfl w1 w2
       · rw [e]; exact .two (o := ⟨8 + 1, 0⟩) (P9 (by decide)) rfl w1 w2
     · rw [EZ, Uv, if_neg (by unfold AU; dsimp only; omega)]; dsimp only; omega
   have ht : 1 ≤ t := by
    by_cases c : t = 0
    · have := hb.2.2.2 c; omega
    · omega
   split
   · obtain ⟨w, h⟩ := FL raw hp d (a + 1) (t - 1)
     refine ⟨?_, ?_⟩
     · unfold aQ
       split
       · exact .one (o := ⟨14, 0⟩) (P9 (by decide)) rfl w
       · split
         · exact .one (o := ⟨18, 0⟩) (P9 (by decide)) rfl w
         · exact .one (o := ⟨17, 0⟩) (P9 (by decide)) rfl w
     · rw [EZ]
       split <;> (dsimp only; omega)
   · obtain ⟨w1, h1⟩ := FL raw hp d (a + 1) (t - 1)
     obtain ⟨w2, h2⟩ := FL raw hp d (a + 1 + (Bf raw p d (a + 1) (t - 1)).1.length) (Bf raw p d (a + 1) (t - 1)).2
     generalize Bf raw p d (a + 1) (t - 1) = x at w1 h1 w2 h2 ⊢
     generalize Bf raw p d (a + 1 + x.1.length) x.2 = y at w2 h2 ⊢
     have : Cr raw (d + 1) a t % 2 = 0 ∨ Cr raw (d + 1) a t % 2 = 1 := by omega
     refine ⟨?_, ?_⟩
     · rcases this with e | e
       · rw [e]; exact .two (o := ⟨15 + 0, 0⟩) (P9 (by decide)) rfl w1 w2
       · rw [e]; exact .two (o := ⟨15 + 1, 0⟩) (P9 (by decide)) rfl w1 w2
     · rw [EZ, Uv]
       split <;> (dsimp only; omega)
theorem D8 (raw : List Fo) (p : Int) : ∀ (d a t : Nat), 1 ≤ (Bf raw p d a t).1.length ∧ a + (Bf raw p d a t).1.length ≤ max a 12 + (d + 1) ∧ (12 ≤ a → (Bf raw p d a t).1.length = 1)
 | 0, a, t => by rw [Bf]; refine ⟨by simp, ?_, fun _ => rfl⟩; simp only [List.length_singleton]; omega
 | d + 1, a, t => by
   have hb := Ip raw (d + 1) a t
   rw [Bf]
   split
   · refine ⟨by simp, ?_, fun _ => rfl⟩; simp only [List.length_singleton]; omega
   rename_i c
   have ha : a < 12 := by
    by_cases hh : 12 < a + 1
    · have := hb.2.2.1 (.inr hh); omega
    · omega
   split
   · have h := D8 raw p d (a + 1) t
     simp only [List.length_cons]
     exact ⟨by omega, by omega, fun _ => by omega⟩
   split
   · have h1 := D8 raw p d (a + 1) t
     have h2 := D8 raw p d (a + 1 + (Bf raw p d (a + 1) t).1.length) (Bf raw p d (a + 1) t).2
     simp only [List.length_cons, List.length_append]
     refine ⟨by omega, ?_, fun _ => by omega⟩
     by_cases hc : 12 ≤ a + 1 + (Bf raw p d (a + 1) t).1.length
     · have := h2.2.2 hc; omega
     · omega
   split
   · have h := D8 raw p d (a + 1) (t - 1)
     simp only [List.length_cons]
     exact ⟨by omega, by omega, fun _ => by omega⟩
   · have h1 := D8 raw p d (a + 1) (t - 1)
     have h2 := D8 raw p d (a + 1 + (Bf raw p d (a + 1) (t - 1)).1.length) (Bf raw p d (a + 1) (t - 1)).2
     simp only [List.length_cons, List.length_append]
     refine ⟨by omega, ?_, fun _ => by omega⟩
     by_cases hc : 12 ≤ a + 1 + (Bf raw p d (a + 1) (t - 1)).1.length
     · have := h2.2.2 hc; omega
     · omega
def IA (raw : List Fo) (t : Nat) : List Fo := (Bf raw 3 4 0 t).1
theorem LK (raw : List Fo) (t : Nat) : Wf (FoK 3) (IA raw t) ∧ nAh (IA raw t) ≤ t ∧ (IA raw t).length ≤ 17 := by
 have h1 := FL raw (p := 3) (by decide) 4 0 t
 have h2 := D8 raw 3 4 0 t
 unfold IA
 exact ⟨h1.1, by omega, by omega⟩

theorem P2 {m : Md} {r : Ru} {vs : List Int} (h : CL r.guard vs ≠ (1, 0)) : Co m r vs = none := by
 rw [Co, if_neg fun k => h k.1]
theorem Te {m : Md} {r : Ru} {vs : List Int} {s : St} (hs : s ∈ r.sets) (h : ¬ H9 m vs s) : Co m r vs = none := by
 rw [Co, if_neg fun k => h (k.2 s hs)]
theorem QQ {m : Md} {r : Ru} {vs : List Int} (h : CL r.guard vs = (1, 0)) (hs : ∀ s ∈ r.sets, H9 m vs s) : Co m r vs = some (Cc vs r.sets vs) := by
 rw [Co, if_pos ⟨h, hs⟩]
structure InV (m : Md) (vs : List Int) : Prop where
 len : vs.length = m.vars.length
 range : ∀ (i : Nat) (h : i < m.vars.length) (h' : i < vs.length), m.vars[i].low ≤ vs[i] ∧ vs[i] ≤ m.vars[i].high
theorem InV.vals {m : Md} (hm : Ah m = 0) {c : Int} (h0 : 0 ≤ c) (hc : c < AR m.vars) : InV m (CO m.vars c) :=
 ⟨F7 _ _, fun i h h' => QU (KW (BP hm)) h0 hc i h h'⟩
theorem InV.lim {m : Md} (hm : Ah m = 0) {vs : List Int} (g : InV m vs) : ∀ v ∈ vs, Al v := fun v hv => by
 obtain ⟨i, h, rfl⟩ := List.getElem_of_mem hv
 have hl : i < m.vars.length := by have := g.len; omega
 have hr := g.range i hl h
 have hv := (KW (BP hm)).range m.vars[i] (List.getElem_mem hl)
 unfold DC at hv
 unfold Al; omega
theorem Pk {m : Md} (hm : Ah m = 0) {vs : List Int} (h : vs.length = m.vars.length) : codeF m vs = Dc 0 m.vars vs := by
 rw [codeF, if_neg (fun k => k hm), if_neg (fun k => k h)]
theorem Yy {m : Md} (hm : Ah m = 0) {r : Ru} (hr : r ∈ m.rules) {vs : List Int} (g : InV m vs) (hs : ∀ s ∈ r.sets, H9 m vs s) : (codeF m (Cc vs r.sets vs)).2 = 0 := by
 have hl := Dv vs r.sets vs
 rw [Pk hm (by rw [hl]; exact g.len)]
 refine KB _ _ _ fun i h h' => ?_
 have e := MJ vs r.sets vs i
 rw [List.getElem?_eq_getElem h', List.getElem?_eq_getElem (by omega)] at e
 simp only [Option.map_some, Option.some.injEq] at e
 rw [e]
 rcases Sr vs r.sets i vs[i] with u | ⟨s, h1, h2, h3⟩
 · rw [u]; exact g.range i h (by omega)
 · rw [h3]; exact (hs s h1).2 _ (by rw [h2, List.getElem?_eq_getElem h])
theorem Hz (vs : List Int) : ∀ (a b : List St) (out : List Int), Cc vs (a ++ b) out = Cc vs b (Cc vs a out)
 | [], _, _ => rfl
 | s :: a, b, out => by rw [List.cons_append, Cc, Cc, Hz vs a b]
theorem Ro (vs : List Int) (l : List St) (i : Nat) (h : i < l.length) : Cc vs (l.take (i + 1)) vs = (Cc vs (l.take i) vs).set l[i].var.toNat (CL l[i].val vs).1 := by
 rw [List.take_succ_eq_append_getElem h, Hz]; rfl
theorem VQ {m : Md} {vs : List Int} {s : St} {n e : Int} (he : CL s.val vs = (n, e)) (h : s.var.toNat < m.vars.length) : H9 m vs s ↔ (e = 0 ∧ m.vars[s.var.toNat].low ≤ n ∧ n ≤ m.vars[s.var.toNat].high) := by
 unfold H9
 rw [he]
 constructor
 · rintro ⟨h1, h2⟩
   exact ⟨h1, h2 _ (List.getElem?_eq_getElem h)⟩
 · rintro ⟨h1, h2⟩
   refine ⟨h1, fun v hv => ?_⟩
   rw [List.getElem?_eq_getElem h] at hv
   cases hv
   exact h2
theorem Mp {m : Md} {c : Int} (h : (CW m c).2 = 0) : Ah m = 0 ∧ 0 ≤ c ∧ c < AR m.vars ∧ CW m c = (CO m.vars c, 0) := by
 unfold CW at h ⊢
 by_cases c1 : Ah m ≠ 0
 · rw [if_pos c1] at h; exact absurd h c1
 rw [if_neg c1] at h ⊢
 by_cases c2 : 0 ≤ c ∧ c < AR m.vars
 · rw [if_pos c2]; exact ⟨Decidable.not_not.1 c1, c2.1, c2.2, rfl⟩
 · rw [if_neg c2] at h; exact absurd h (by decide)
end Go.Sp
