/- A bundle of this claim's own texts: G35 G36 G37 T4 G14 G51 G15 G16 Q3 TopZ. -/
import Derived.Lib.ItoaNum
import Derived.Lib.SlicesCompact
import Derived.Lay
import Derived.LaidLaws
import Derived.Test.YtajnpfgelpkijaaGreatDoorA2
import Derived.Test.YtajnpfgelpkijaaGreatDoorA4
import Derived.Test.YtajnpfgelpkijaaGreatDoorA5
import Derived.Test.YtajnpfgelpkijaaGreatDoorA6
import Derived.Test.YtajnpfgelpkijaaGreatDoorA7
import Derived.Test.YtajnpfgelpkijaaGreatDoorA8
import Derived.Test.YtajnpfgelpkijaaGreatDoorA9
set_option linter.unusedVariables false
set_option linter.unusedSimpArgs false
set_option maxRecDepth 100000
set_option maxHeartbeats 4000000
namespace Go.Sp
open Go Go.Av

def B7 (k : Int) : List UInt8 := (Gu[k.toNat]?).getD []
def Bx (vars : List Vr) (o : Fo) : List UInt8 :=
 if o.kind = 1 then Lib.itoa o.val
 else if o.kind = 2 then ((vars[o.val.toNat]?).map fun v => v.name.data.toList).getD []
 else if o.kind = 13 then 80 :: Lib.itoa o.val
 else B7 o.kind
def Bt (vars : List Vr) (l : List Fo) : List UInt8 := l.flatMap fun o => 32 :: Bx vars o
theorem UB (vars : List Vr) (l : List Fo) (o : Fo) : Bt vars (l ++ [o]) = Bt vars l ++ 32 :: Bx vars o := by unfold Bt; simp
theorem YR (vars : List Vr) (l : List Fo) (i : Nat) (h : i < l.length) : Bt vars (l.take (i + 1)) = Bt vars (l.take i) ++ 32 :: Bx vars l[i] := by
 rw [List.take_succ_eq_append_getElem h, UB]
def ai : List UInt8 := [118, 97, 114, 32]
def HS : List UInt8 := [114, 117, 108, 101]
def Zj : List UInt8 := [115, 101, 116, 32]
def Hb : List UInt8 := [112, 114, 111, 112]
def Ep : List UInt8 := [99, 104, 101, 99, 107]
def JO (v : Vr) : List UInt8 := ai ++ v.name.data.toList ++ 32 :: Lib.itoa v.low ++ 32 :: Lib.itoa v.high ++ 32 :: Lib.itoa v.init ++ [10]
def HU (vars : List Vr) (s : St) : List UInt8 := Zj ++ ((vars[s.var.toNat]?).map fun v => v.name.data.toList).getD [] ++ Bt vars s.val ++ [10]
def Dx (vars : List Vr) (r : Ru) : List UInt8 := HS ++ Bt vars r.guard ++ [10] ++ r.sets.flatMap (HU vars)
def EG (vars : List Vr) (l : List Fo) : List UInt8 := Hb ++ Bt vars l ++ [10]
def HP (vars : List Vr) (l : List Fo) : List UInt8 := Ep ++ Bt vars l ++ [10]
def Bo (t : Tk) : List UInt8 := t.model.vars.flatMap JO ++ t.model.rules.flatMap (Dx t.model.vars) ++ t.props.flatMap (EG t.model.vars) ++ HP t.model.vars t.formula
noncomputable def DD (t : Tk) : ByteArray × Int := if A2 t ≠ 0 then (.empty, A2 t) else (tx (Bo t), 0)
theorem Jb {α : Type} (f : α → List UInt8) (l : List α) (i : Nat) (h : i < l.length) : (l.take (i + 1)).flatMap f = (l.take i).flatMap f ++ f l[i] := by
 rw [List.take_succ_eq_append_getElem h, List.flatMap_append]; simp
theorem EU {n : Nat} (h : n < 10) : Lib.decDigits n = [UInt8.ofNat (48 + n)] := by rw [Lib.decDigits, dif_pos h]
theorem LA {n : Nat} (h : ¬ n < 10) : Lib.decDigits n = Lib.decDigits (n / 10) ++ [UInt8.ofNat (48 + n % 10)] := by rw [Lib.decDigits, dif_neg h]
theorem Uh (n : Nat) : ∀ k, n < 10 ^ k → 0 < k → (Lib.decDigits n).length ≤ k := by
 induction n using Nat.strongRecOn with
 | _ n ih =>
   intro k hk h0
   by_cases h : n < 10
   · rw [EU h]; simp only [List.length_cons, List.length_nil]; omega
   · obtain ⟨j, rfl⟩ : ∃ j, k = j + 1 := ⟨k - 1, by omega⟩
     have hj : 0 < j := by
      rcases Nat.eq_zero_or_pos j with rfl | hj
      · simp at hk; omega
      · exact hj
     rw [Nat.pow_succ] at hk
     have := ih (n / 10) (by omega) j (by omega) hj
     rw [LA h, List.length_append]
     simp only [List.length_cons, List.length_nil]; omega
theorem D4 {n : Int} (h1 : -2000000000 ≤ n) (h2 : n ≤ 2000000000) : (Lib.itoa n).length ≤ 11 := by
 unfold Lib.itoa
 split
 · have := Uh n.natAbs 10 (by omega) (by decide)
   rw [List.length_cons]; omega
 · have := Uh n.toNat 10 (by omega) (by decide)
   omega
structure OpP (nv np : Int) (o : Fo) : Prop where
 lo : 1 ≤ o.kind
 hi : o.kind ≤ 18
 num : o.kind = 1 → -1000 ≤ o.val ∧ o.val ≤ 1000
 var : o.kind = 2 → 0 ≤ o.val ∧ o.val < nv
 prop : o.kind = 13 → 0 ≤ o.val ∧ o.val < np
 none : o.kind ≠ 1 → o.kind ≠ 2 → o.kind ≠ 13 → o.val = 0
theorem OpP.of_expr {o : Fo} {nv np : Int} (h : opZ o.kind o.val nv = 0) : OpP nv np o := by
 unfold opZ at h
 by_cases h1 : ¬ okP o.kind
 · rw [if_pos h1] at h; cases h
 rw [if_neg h1] at h
 have h1' : 1 ≤ o.kind ∧ o.kind ≤ 12 := Decidable.not_not.1 h1
 by_cases h2 : (o.kind = 1 ∧ (o.val < -1000 ∨ 1000 < o.val)) ∨ (o.kind = 2 ∧ (o.val < 0 ∨ nv ≤ o.val)) ∨ (2 < o.kind ∧ o.val ≠ 0)
 · rw [if_pos h2] at h; cases h
 exact ⟨by omega, by omega, fun e => by omega, fun e => by omega, fun e => by omega, fun e1 e2 e3 => by omega⟩
theorem OpP.of_form {o : Fo} {nv np : Int} (h : D1 o.kind o.val np = 0) (hp : (partsOf o.kind).2 = 0) : OpP nv np o := by
 have hk : ¬ (o.kind < 1 ∨ 18 < o.kind) := fun k => by rw [DH _ k] at hp; cases hp
 unfold D1 at h
 by_cases h1 : o.kind < 8
 · rw [if_pos h1] at h; cases h
 rw [if_neg h1] at h
 by_cases h2 : (o.kind = 13 ∧ (o.val < 0 ∨ np ≤ o.val)) ∨ (o.kind ≠ 13 ∧ o.val ≠ 0)
 · rw [if_pos h2] at h; cases h
 exact ⟨by omega, by omega, fun e => by omega, fun e => by omega, fun e => by omega, fun e1 e2 e3 => by omega⟩
structure TmP (nv np : Int) (l : List Fo) : Prop where
 few : l.length ≤ 60
 pos : 0 < l.length
 ops : ∀ o ∈ l, OpP nv np o
theorem TmP.of_kind {l : List Fo} {nv np : Int} {b : Bool} (h : CF l nv b = 0) : TmP nv np l := by
 have h1 := Lv h
 obtain ⟨g, _, _⟩ := MM (l := l) (vars := nv) (by rw [h1])
 refine ⟨g.h60, g.pos, fun o ho => ?_⟩
 obtain ⟨i, hi, rfl⟩ := List.getElem_of_mem ho
 exact .of_expr (g.op i hi)
theorem TmP.of_form {l : List Fo} {nv np : Int} (h : DS l np = 0) : TmP nv np l := by
 obtain ⟨_, _, he, hf, _⟩ := RH h
 obtain ⟨h60, hpos, _, _, _⟩ := Cb (l := l) (es := (Az l).1) (Prod.ext rfl he)
 refine ⟨h60, hpos, fun o ho => ?_⟩
 obtain ⟨i, hi, rfl⟩ := List.getElem_of_mem ho
 exact .of_form (hf i hi) (KA hi (MG he i hi))
structure TkP (t : Tk) : Prop where
 vars6 : t.model.vars.length ≤ 6
 names : ∀ v ∈ t.model.vars, Bl v.name
 range : ∀ v ∈ t.model.vars, -1000 ≤ v.low ∧ v.low ≤ 1000 ∧ -1000 ≤ v.high ∧ v.high ≤ 1000 ∧ -1000 ≤ v.init ∧ v.init ≤ 1000
 nodup : (t.model.vars.map Vr.name).Nodup
 rules : t.model.rules.length ≤ 12
 guards : ∀ r ∈ t.model.rules, TmP t.model.vars.length 0 r.guard
 sets6 : ∀ r ∈ t.model.rules, r.sets.length ≤ 6
 sets : ∀ r ∈ t.model.rules, ∀ s ∈ r.sets, 0 ≤ s.var ∧ s.var < t.model.vars.length ∧ TmP t.model.vars.length 0 s.val
 props6 : t.props.length ≤ 6
 props : ∀ p ∈ t.props, TmP t.model.vars.length 0 p
 form : TmP t.model.vars.length t.props.length t.formula
theorem KR : ∀ (l : List Vr) (seen : List ByteArray) (n : Int), EE l seen n = 0 → (∀ v ∈ l, Bl v.name ∧ DC v ∧ v.name ∉ seen) ∧ (l.map Vr.name).Nodup
 | [], _, _, _ => ⟨fun v h => (by cases h), List.nodup_nil⟩
 | v :: l, seen, n, h => by
   rw [EE] at h
   by_cases c1 : ¬ Bl v.name
   · rw [if_pos c1] at h; cases h
   rw [if_neg c1] at h
   by_cases c2 : v.name ∈ seen
   · rw [if_pos c2] at h; cases h
   rw [if_neg c2] at h
   by_cases c3 : ¬ DC v
   · rw [if_pos c3] at h; cases h
   rw [if_neg c3] at h
   by_cases c4 : 64 < A6 v
   · rw [if_pos c4] at h; cases h
   rw [if_neg c4] at h
   by_cases c5 : 4096 < n * A6 v
   · rw [if_pos c5] at h; cases h
   rw [if_neg c5] at h
   obtain ⟨h1, h2⟩ := KR l _ _ h
   refine ⟨fun w hw => ?_, ?_⟩
   · rcases List.mem_cons.1 hw with rfl | hw
     · exact ⟨Decidable.not_not.1 c1, Decidable.not_not.1 c3, c2⟩
     · obtain ⟨a1, a2, a3⟩ := h1 w hw
       exact ⟨a1, a2, fun k => a3 (List.mem_append.2 (.inl k))⟩
   · rw [List.map_cons, List.nodup_cons]
     refine ⟨fun k => ?_, h2⟩
     obtain ⟨w, hw, e⟩ := List.mem_map.1 k
     exact (h1 w hw).2.2 (by rw [e]; simp)
theorem Kb (n : Int) : ∀ l : List (List Fo), Cm n l = 0 → ∀ p ∈ l, CF p n true = 0
 | [], _, r, h => by cases h
 | a :: l, h, r, hr => by
   rw [Cm] at h
   by_cases c : CF a n true ≠ 0
   · rw [if_pos c] at h; exact absurd h c
   rw [if_neg c] at h
   rcases List.mem_cons.1 hr with rfl | hr
   · exact Decidable.not_not.1 c
   · exact Kb n l h r hr
theorem IJ {r : Ru} {n : Int} (h : DZ r n = 0) : r.sets.length ≤ 6 ∧ CF r.guard n true = 0 ∧ ∀ s ∈ r.sets, 0 ≤ s.var ∧ s.var < n ∧ CF s.val n false = 0 := by
 unfold DZ at h
 by_cases c1 : 6 < r.sets.length
 · rw [if_pos c1] at h; cases h
 rw [if_neg c1] at h
 by_cases c2 : CF r.guard n true ≠ 0
 · rw [if_pos c2] at h; exact absurd h c2
 rw [if_neg c2] at h
 refine ⟨by omega, Decidable.not_not.1 c2, fun s hs => ?_⟩
 obtain ⟨a, b, c, _⟩ := (Ia n r.sets [] h).1 s hs
 exact ⟨a, b, c⟩
theorem TkP.of {t : Tk} (h : A2 t = 0) : TkP t := by
 obtain ⟨hp, hf, hm⟩ := CA h
 have hv := BP hm
 have hv' := hv
 unfold ED at hv'
 by_cases c6 : 6 < t.model.vars.length
 · rw [if_pos c6] at hv'; cases hv'
 rw [if_neg c6] at hv'
 obtain ⟨n1, n2⟩ := KR _ _ _ hv'
 have hr : DU t.model.vars.length t.model.rules = 0 := by
  have h12 := IY hm
  unfold Ah at hm
  rw [if_neg (fun k => k hv), if_neg (by omega)] at hm
  exact hm
 have hpe : t.props.length ≤ 6 ∧ Cm t.model.vars.length t.props = 0 := by
  unfold CS at hp
  rw [if_neg (fun k => k hm)] at hp
  by_cases c : 6 < t.props.length
  · rw [if_pos c] at hp; cases hp
  · rw [if_neg c] at hp; exact ⟨by omega, hp⟩
 have hrg := Gs _ _ hr
 exact
 { vars6 := by omega
   names := fun v hv => (n1 v hv).1
   range := fun v hv => by obtain ⟨a, b, c, d, e⟩ := (n1 v hv).2.1; omega
   nodup := n2
   rules := IY hm
   guards := fun r hr => .of_kind (IJ (hrg r hr)).2.1
   sets6 := fun r hr => (IJ (hrg r hr)).1
   sets := fun r hr s hs => by
    obtain ⟨a, b, c⟩ := (IJ (hrg r hr)).2.2 s hs
    exact ⟨a, b, .of_kind c⟩
   props6 := hpe.1
   props := fun p hp => .of_kind (Kb _ _ hpe.2 p hp)
   form := .of_form hf }
theorem Gy {s : ByteArray} (h : Bl s) : s.data.toList.length ≤ 8 := h.1.2
theorem Xx (k : Int) : (B7 k).length ≤ 3 := by
 unfold B7
 cases h : Gu[k.toNat]? with
 | none => exact Nat.zero_le _
 | some l =>
   have := List.mem_of_getElem? h
   have key : ∀ l ∈ Gu, l.length ≤ 3 := by decide
   exact key l this
theorem QI {vars : List Vr} (hn : ∀ v ∈ vars, Bl v.name) {o : Fo} {np : Int} (h : OpP vars.length np o) (hp : np ≤ 6) : (Bx vars o).length ≤ 12 := by
 unfold Bx
 split
 · have := h.num (by assumption)
   have := D4 (n := o.val) (by omega) (by omega)
   omega
 split
 · have hv := h.var (by assumption)
   have hi : o.val.toNat < vars.length := by omega
   rw [List.getElem?_eq_getElem hi]
   have := Gy (hn _ (List.getElem_mem hi))
   simp only [Option.map_some, Option.getD_some]; omega
 split
 · have := h.prop (by assumption)
   have := D4 (n := o.val) (by omega) (by omega)
   rw [List.length_cons]; omega
 · have := Xx o.kind; omega
theorem Cs {vars : List Vr} (hn : ∀ v ∈ vars, Bl v.name) {np : Int} (hp : np ≤ 6) : ∀ l : List Fo, (∀ o ∈ l, OpP vars.length np o) → (Bt vars l).length ≤ 13 * l.length
 | [], _ => Nat.zero_le _
 | o :: l, h => by
   have h1 := QI hn (h o List.mem_cons_self) hp
   have h2 := Cs hn hp l fun x hx => h x (List.mem_cons_of_mem _ hx)
   have e : Bt vars (o :: l) = 32 :: Bx vars o ++ Bt vars l := by unfold Bt; simp
   rw [e, List.length_append, List.length_cons, List.length_cons]; omega
def spl (c : UInt8) : List UInt8 → List (List UInt8)
 | [] => [[]]
 | b :: l => if b = c then [] :: spl c l else match spl c l with
   | [] => [[b]]
   | w :: ws => (b :: w) :: ws
def jn (c : UInt8) : List (List UInt8) → List UInt8
 | [] => []
 | [w] => w
 | w :: v :: ws => w ++ c :: jn c (v :: ws)
theorem GQ (c : UInt8) (l : List UInt8) : spl c l ≠ [] := by
 cases l with
 | nil => simp [spl]
 | cons b l =>
   rw [spl]; split
   · simp
   · split <;> simp
theorem K8 (c : UInt8) (w : List UInt8) {ws : List (List UInt8)} (h : ws ≠ []) : jn c (w :: ws) = w ++ c :: jn c ws := by
 cases ws with
 | nil => exact absurd rfl h
 | cons v ws => rfl
theorem bL (c b : UInt8) (w : List UInt8) (ws : List (List UInt8)) : jn c ((b :: w) :: ws) = b :: jn c (w :: ws) := by
 cases ws <;> rfl
theorem TA (c : UInt8) : ∀ l : List UInt8, jn c (spl c l) = l
 | [] => rfl
 | b :: l => by
   have ih := TA c l
   rw [spl]
   split
   · rename_i e
     rw [K8 _ _ (GQ c l), ih, e]; rfl
   · split
     · rename_i h; exact absurd h (GQ c l)
     · rename_i h
       rw [bL, ← h, ih]
theorem Yz (c : UInt8) : ∀ (l : List UInt8), ∀ w ∈ spl c l, c ∉ w
 | [], w, h => by simp [spl] at h; subst h; simp
 | b :: l, w, h => by
   have ih := Yz c l
   rw [spl] at h
   split at h
   · rcases List.mem_cons.1 h with rfl | h
     · simp
     · exact ih w h
   · rename_i hb
     split at h
     · rename_i e; exact absurd e (GQ c l)
     · rename_i v vs e
       rcases List.mem_cons.1 h with rfl | h
       · intro k
         rcases List.mem_cons.1 k with k | k
         · exact hb k.symm
         · exact ih v (by rw [e]; exact List.mem_cons_self) k
       · exact ih w (by rw [e]; exact List.mem_cons_of_mem _ h)
theorem Je (c : UInt8) : ∀ (w : List UInt8), c ∉ w → spl c w = [w]
 | [], _ => rfl
 | b :: w, h => by
   rw [spl, if_neg (fun e => h (by rw [e]; exact List.mem_cons_self)), Je c w fun k => h (List.mem_cons_of_mem _ k)]
theorem I8 (c : UInt8) : ∀ (w l : List UInt8), c ∉ w → spl c (w ++ c :: l) = w :: spl c l
 | [], l, _ => by rw [List.nil_append, spl, if_pos rfl]
 | b :: w, l, h => by
   rw [List.cons_append, spl, if_neg (fun e => h (by rw [e]; exact List.mem_cons_self)), I8 c w l fun k => h (List.mem_cons_of_mem _ k)]
theorem Za (c : UInt8) : ∀ (ws : List (List UInt8)), ws ≠ [] → (∀ w ∈ ws, c ∉ w) → spl c (jn c ws) = ws
 | [], h, _ => absurd rfl h
 | [w], _, h => Je c w (h w List.mem_cons_self)
 | w :: v :: ws, _, h => by
   rw [jn, I8 c w _ (h w List.mem_cons_self), Za c (v :: ws) (by simp) fun x hx => h x (List.mem_cons_of_mem _ hx)]
theorem LH (vars : List Vr) (w : List UInt8) : ∀ l : List Fo, jn 32 (w :: l.map (Bx vars)) = w ++ Bt vars l := by
 intro l
 induction l generalizing w with
 | nil => simp [jn, Bt]
 | cons o l ih =>
   rw [List.map_cons, K8 _ _ (by simp), ih (Bx vars o)]
   unfold Bt
   simp
theorem Eb (n : Nat) : ∀ b ∈ Lib.decDigits n, 48 ≤ b.toNat ∧ b.toNat ≤ 57 := by
 induction n using Nat.strongRecOn with
 | _ n ih =>
   intro b hb
   have dg : ∀ k, k < 10 → (UInt8.ofNat (48 + k)).toNat = 48 + k := fun k hk => by
    rw [UInt8.toNat_ofNat']; omega
   by_cases h : n < 10
   · rw [EU h, List.mem_singleton] at hb
     rw [hb, dg n h]; omega
   · rw [LA h] at hb
     rcases List.mem_append.1 hb with hb | hb
     · exact ih (n / 10) (by omega) b hb
     · rw [List.mem_singleton] at hb
       rw [hb, dg _ (by omega)]; omega
theorem Zs (n : Nat) : Lib.decDigits n ≠ [] := by
 by_cases h : n < 10
 · rw [EU h]; simp
 · rw [LA h]; simp
def ak (l : List UInt8) : Nat := l.foldl (fun a b => a * 10 + (b.toNat - 48)) 0
theorem Gm (n : Nat) : ak (Lib.decDigits n) = n := by
 induction n using Nat.strongRecOn with
 | _ n ih =>
   have dg : ∀ k, k < 10 → (UInt8.ofNat (48 + k)).toNat - 48 = k := fun k hk => by
    rw [UInt8.toNat_ofNat']; omega
   by_cases h : n < 10
   · rw [EU h]
     show 0 * 10 + ((UInt8.ofNat (48 + n)).toNat - 48) = n
     rw [dg n h]; omega
   · rw [LA h]
     have := ih (n / 10) (by omega)
     unfold ak at this ⊢
     rw [List.foldl_append, this]
     show n / 10 * 10 + ((UInt8.ofNat (48 + n % 10)).toNat - 48) = n
     rw [dg _ (by omega)]; omega
theorem Ya {a b : Int} (h : Lib.itoa a = Lib.itoa b) : a = b := by
 have no : ∀ n : Nat, ∀ l, Lib.decDigits n ≠ 45 :: l := fun n l e => by
  have := Eb n 45 (by rw [e]; exact List.mem_cons_self)
  have h45 : (45 : UInt8).toNat = 45 := rfl
  omega
 unfold Lib.itoa at h
 by_cases ha : a < 0
 · by_cases hb : b < 0
   · rw [if_pos ha, if_pos hb] at h
     have := congrArg ak (List.cons.inj h).2
     rw [Gm, Gm] at this; omega
   · rw [if_pos ha, if_neg hb] at h; exact absurd h.symm (no _ _)
 · by_cases hb : b < 0
   · rw [if_neg ha, if_pos hb] at h; exact absurd h (no _ _)
   · rw [if_neg ha, if_neg hb] at h
     have := congrArg ak h
     rw [Gm, Gm] at this; omega
theorem Ij (n : Int) : ∀ b ∈ Lib.itoa n, b.toNat = 45 ∨ (48 ≤ b.toNat ∧ b.toNat ≤ 57) := fun b hb => by
 unfold Lib.itoa at hb
 split at hb
 · rcases List.mem_cons.1 hb with rfl | hb
   · exact .inl rfl
   · exact .inr (Eb _ b hb)
 · exact .inr (Eb _ b hb)
theorem TC (k : Int) : ∀ b ∈ B7 k, b.toNat ≠ 32 ∧ b.toNat ≠ 10 := by
 unfold B7
 cases h : Gu[k.toNat]? with
 | none => intro b hb; simp at hb
 | some l =>
   have := List.mem_of_getElem? h
   have key : ∀ l ∈ Gu, ∀ b ∈ l, b.toNat ≠ 32 ∧ b.toNat ≠ 10 := by decide
   exact key l this
theorem MW {s : ByteArray} (h : Bl s) : ∀ b ∈ s.data.toList, (97 ≤ b.toNat ∧ b.toNat ≤ 122) ∨ (48 ≤ b.toNat ∧ b.toNat ≤ 57) := fun b hb => by
 obtain ⟨i, hi, rfl⟩ := List.getElem_of_mem hb
 rcases h.2.2.2 i hi with h | h
 · exact .inl h
 · exact .inr ⟨h.1, h.2.1⟩
theorem Mb {s : ByteArray} (h : Bl s) : ∃ b l, s.data.toList = b :: l ∧ 97 ≤ b.toNat ∧ b.toNat ≤ 122 := by
 cases e : s.data.toList with
 | nil => have := h.1.1; rw [e] at this; simp at this
 | cons b l =>
   have := h.2.2.2 0 (by rw [e]; simp)
   have e0 : s.data.toList[0]'(by rw [e]; simp) = b := by simp [e]
   rw [e0] at this
   rcases this with h | h
   · exact ⟨b, l, rfl, h.1, h.2⟩
   · exact absurd rfl h.2.2
theorem Tc {vars : List Vr} (hn : ∀ v ∈ vars, Bl v.name) {o : Fo} {np : Int} (h : OpP vars.length np o) : ∀ b ∈ Bx vars o, b.toNat ≠ 32 ∧ b.toNat ≠ 10 := by
 unfold Bx
 split
 · intro b hb; have := Ij _ b hb; omega
 split
 · have hv := h.var (by assumption)
   have hi : o.val.toNat < vars.length := by omega
   rw [List.getElem?_eq_getElem hi]
   intro b hb
   have := MW (hn _ (List.getElem_mem hi)) b hb
   omega
 split
 · intro b hb
   rcases List.mem_cons.1 hb with rfl | hb
   · exact ⟨by decide, by decide⟩
   · have := Ij _ b hb; omega
 · exact TC _
end Go.Sp
namespace Go.Proofs.YtajnpfgelpkijaaGreatDoor
open Go Go.Av Go.Sp

end Go.Proofs.YtajnpfgelpkijaaGreatDoor
namespace Go.Sp
open Go Go.Av

def JF (n : Nat) (l : List Int) : List Int := ((List.range n).filter fun c : Nat => decide ((c : Int) ∈ l)).map Int.ofNat
theorem Qb {n : Nat} {l : List Int} (h : ∀ x ∈ l, 0 ≤ x ∧ x < n) (x : Int) : x ∈ JF n l ↔ x ∈ l := by
 unfold JF
 simp only [List.mem_map, List.mem_filter, List.mem_range, decide_eq_true_eq]
 constructor
 · rintro ⟨c, ⟨_, hc⟩, rfl⟩; exact hc
 · intro hx
   obtain ⟨h0, h1⟩ := h x hx
   exact ⟨x.toNat, ⟨by omega, by rwa [Int.toNat_of_nonneg h0]⟩, Int.toNat_of_nonneg h0⟩
theorem bQ (n : Nat) (l : List Int) : (JF n l).Pairwise (· < ·) := by
 unfold JF
 rw [List.pairwise_map]
 exact (List.pairwise_lt_range.filter _).imp fun h => Int.ofNat_lt.2 h
theorem Tp {n : Nat} {l : List Int} {x : Int} (h : x ∈ JF n l) : 0 ≤ x ∧ x < n ∧ x ∈ l := by
 unfold JF at h
 simp only [List.mem_map, List.mem_filter, List.mem_range, decide_eq_true_eq] at h
 obtain ⟨c, ⟨h1, h2⟩, rfl⟩ := h
 exact ⟨Int.natCast_nonneg c, Int.ofNat_lt.2 h1, h2⟩
theorem ct : ∀ {a b : List Int}, a.Pairwise (· < ·) → b.Pairwise (· < ·) → (∀ x, x ∈ a ↔ x ∈ b) → a = b
 | [], [], _, _, _ => rfl
 | [], y :: b, _, _, h => by cases (h y).2 List.mem_cons_self
 | x :: a, [], _, _, h => by cases (h x).1 List.mem_cons_self
 | x :: a, y :: b, ha, hb, h => by
   rw [List.pairwise_cons] at ha hb
   have e : x = y := by
    rcases List.mem_cons.1 ((h x).1 List.mem_cons_self) with e | e
    · exact e
    rcases List.mem_cons.1 ((h y).2 List.mem_cons_self) with e' | e'
    · exact e'.symm
    have h1 := ha.1 y e'
    have h2 := hb.1 x e
    omega
   subst e
   refine congrArg (x :: ·) (ct ha.2 hb.2 fun z => ?_)
   constructor
   · intro hz
     rcases List.mem_cons.1 ((h z).1 (List.mem_cons_of_mem _ hz)) with e | e
     · have := ha.1 z hz; omega
     · exact e
   · intro hz
     rcases List.mem_cons.1 ((h z).2 (List.mem_cons_of_mem _ hz)) with e | e
     · have := hb.1 z hz; omega
     · exact e
theorem Iq (zs : List Int) (hs : zs.Pairwise (· ≤ ·)) : ∀ m, m ≤ zs.length → (Lib.compactUpTo zs.toArray m).Pairwise (· < ·) ∧ (∀ x, x ∈ Lib.compactUpTo zs.toArray m ↔ ∃ j, j < m ∧ zs.toArray[j]! = x)
 | 0, _ => ⟨by simp [Lib.compactUpTo], fun x => by simp [Lib.compactUpTo]⟩
 | m + 1, hm => by
   obtain ⟨i1, i2⟩ := Iq zs hs m (by omega)
   have hat : ∀ j (h : j < zs.length), zs.toArray[j]! = zs[j] := fun j h => by simp [h]
   have hle : ∀ i j (h : j < zs.length), i ≤ j → zs.toArray[i]! ≤ zs.toArray[j]! := fun i j h hij => by
    rw [hat j h, hat i (by omega)]
    rcases Nat.lt_or_eq_of_le hij with hl | rfl
    · exact List.pairwise_iff_getElem.1 hs i j (by omega) h hl
    · exact Int.le_refl _
   rw [Lib.compactUpTo_succ]
   by_cases hk : Lib.keeps zs.toArray m = true
   · rw [if_pos hk]
     have hlt : ∀ x ∈ Lib.compactUpTo zs.toArray m, x < zs.toArray[m]! := fun x hx => by
      obtain ⟨j, hj, rfl⟩ := (i2 x).1 hx
      have h1 := hle j (m - 1) (by omega) (by omega)
      have h2 := hle (m - 1) m (by omega) (by omega)
      unfold Lib.keeps at hk
      have h3 : zs.toArray[m]! ≠ zs.toArray[m - 1]! := by
       rcases of_decide_eq_true hk with h | h
       · omega
       · exact h
      omega
     refine ⟨List.pairwise_append.2 ⟨i1, List.pairwise_singleton _ _, fun a ha b hb => ?_⟩, fun x => ?_⟩
     · rw [List.mem_singleton.1 hb]; exact hlt a ha
     · rw [List.mem_append, List.mem_singleton, i2]
       constructor
       · rintro (⟨j, hj, rfl⟩ | rfl)
         · exact ⟨j, by omega, rfl⟩
         · exact ⟨m, by omega, rfl⟩
       · rintro ⟨j, hj, rfl⟩
         rcases Nat.lt_or_eq_of_le (Nat.lt_succ_iff.1 hj) with h | rfl
         · exact .inl ⟨j, h, rfl⟩
         · exact .inr rfl
   · rw [if_neg hk, List.append_nil]
     refine ⟨i1, fun x => ?_⟩
     have hk' : m ≠ 0 ∧ zs.toArray[m]! = zs.toArray[m - 1]! := by
      unfold Lib.keeps at hk
      rw [decide_eq_true_eq] at hk
      exact ⟨fun h => hk (.inl h), Decidable.not_not.1 fun h => hk (.inr h)⟩
     rw [i2]
     constructor
     · rintro ⟨j, hj, rfl⟩; exact ⟨j, by omega, rfl⟩
     · rintro ⟨j, hj, rfl⟩
       rcases Nat.lt_or_eq_of_le (Nat.lt_succ_iff.1 hj) with h | rfl
       · exact ⟨j, h, rfl⟩
       · exact ⟨j - 1, by omega, hk'.2.symm⟩
theorem Iw (l : List Int) : (DL l).Pairwise (· ≤ ·) := by
 have h := List.pairwise_mergeSort (le := fun x y : Int => decide (x ≤ y)) (fun a b c h1 h2 => decide_eq_true (Int.le_trans (of_decide_eq_true h1) (of_decide_eq_true h2))) (fun a b => by
  rcases Int.le_total a b with h | h
  · simp [h]
  · simp [h]) l
 exact h.imp fun h => of_decide_eq_true h
theorem Wp (l : List Int) (x : Int) : x ∈ DL l ↔ x ∈ l := List.mem_mergeSort
theorem Ph (l : List Int) : (DL l).length = l.length := List.length_mergeSort _
theorem KE (l : List Int) (x : Int) : x ∈ Lib.compact (DL l) ↔ x ∈ l := by
 unfold Lib.compact
 rw [(Iq _ (Iw l) _ (Nat.le_refl _)).2, ← Wp l x]
 constructor
 · rintro ⟨j, hj, rfl⟩
   rw [show (DL l).toArray[j]! = (DL l)[j] by simp [List.getElem?_eq_getElem hj]]
   exact List.getElem_mem hj
 · intro h
   obtain ⟨j, hj, rfl⟩ := List.getElem_of_mem h
   exact ⟨j, hj, by simp [List.getElem?_eq_getElem hj]⟩
theorem PN (n : Nat) (l : List Int) (h : ∀ x ∈ l, 0 ≤ x ∧ x < n) : Lib.compact (DL l) = JF n l :=
 ct (Iq _ (Iw l) _ (Nat.le_refl _)).1 (bQ n l) fun x => by rw [Qb h]; exact KE l x
theorem Ke : ∀ (l : List Vr) (xs : List Int) (n p : Int), (∀ v ∈ l, 1 ≤ A6 v) → xs.length = l.length → 0 ≤ n → n + 1 ≤ p → (Dc n l xs).2 = 0 → 0 ≤ (Dc n l xs).1 ∧ (Dc n l xs).1 + 1 ≤ p * AR l
 | [], [], n, p, _, _, h0, h1, _ => by simp only [Dc, AR, Int.mul_one]; exact ⟨h0, h1⟩
 | [], _ :: _, _, _, _, h, _, _, _ => by simp at h
 | _ :: _, [], _, _, _, h, _, _, _ => by simp at h
 | v :: l, x :: xs, n, p, hs, hl, h0, h1, h2 => by
   rw [Dc] at h2 ⊢
   by_cases c : v.low ≤ x ∧ x ≤ v.high
   · rw [if_pos c] at h2 ⊢
     have hv := hs v List.mem_cons_self
     obtain ⟨_, s1, s2⟩ := KP (s := A6 v) (d := x - v.low) h0 h1 (by omega) (by unfold A6; omega)
     have ih := Ke l xs _ _ (fun w hw => hs w (List.mem_cons_of_mem _ hw)) (by simpa using hl) s1 s2 h2
     rw [AR, ← Int.mul_assoc]
     exact ih
   · rw [if_neg c] at h2; exact absurd h2 (by decide)
theorem KU {m : Md} (hm : Ah m = 0) {xs : List Int} (hl : xs.length = m.vars.length) (h : (codeF m xs).2 = 0) : 0 ≤ (codeF m xs).1 ∧ (codeF m xs).1 < AR m.vars := by
 rw [Pk hm hl] at h ⊢
 have := Ke m.vars xs 0 1 (fun v hv => ((KW (BP hm)).span v hv).1) hl (Int.le_refl _) (by omega) h
 omega
noncomputable def Cd (m : Md) (vs : List Int) (l : List Ru) : List Int := l.filterMap fun r => (Co m r vs).map fun out => (codeF m out).1
theorem Tv {m : Md} (hm : Ah m = 0) {r : Ru} (hr : r ∈ m.rules) {vs : List Int} (g : InV m vs) {out : List Int} (h : Co m r vs = some out) : out.length = m.vars.length ∧ (codeF m out).2 = 0 ∧ 0 ≤ (codeF m out).1 ∧ (codeF m out).1 < AR m.vars := by
 unfold Co at h
 by_cases c : CL r.guard vs = (1, 0) ∧ ∀ s ∈ r.sets, H9 m vs s
 · rw [if_pos c] at h
   cases h
   have hl : (Cc vs r.sets vs).length = m.vars.length := by rw [Dv]; exact g.len
   have h2 := Yy hm hr g c.2
   exact ⟨hl, h2, KU hm hl h2⟩
 · rw [if_neg c] at h; cases h
theorem Pb {m : Md} (hm : Ah m = 0) {vs : List Int} (g : InV m vs) : ∀ x ∈ Cd m vs m.rules, 0 ≤ x ∧ x < AR m.vars := by
 intro x hx
 obtain ⟨r, hr, h⟩ := List.mem_filterMap.1 hx
 cases ha : Co m r vs with
 | none => rw [ha] at h; cases h
 | some out =>
   rw [ha] at h
   cases h
   exact (Tv hm hr g ha).2.2
noncomputable def EF (m : Md) (c : Int) : List Int × Int :=
 if (CW m c).2 ≠ 0 then ([], (CW m c).2)
 else (if Cd m (CW m c).1 m.rules = [] then [c] else JF (AR m.vars).toNat (Cd m (CW m c).1 m.rules), 0)
def dH (vs : List Int) (p : List Fo) : Bool := decide ((CL p vs).2 = 0) && decide ((CL p vs).1 = 1)
abbrev SJ (l : List (List Fo)) (vs : List Int) (i : Nat) : Bool := dH vs ((l[i]?).getD [])
noncomputable def Ku (m : Md) (l : List (List Fo)) (c : Int) : List Bool × Int :=
 if CS m l ≠ 0 then ([], CS m l) else if (CW m c).2 ≠ 0 then ([], (CW m c).2) else ((List.range l.length).map (SJ l (CW m c).1), 0)
theorem X2 {l : List (List Fo)} {vs : List Int} {i : Nat} (h : i < l.length) {n e : Int} (he : CL l[i] vs = (n, e)) : SJ l vs i = (decide (e = 0) && decide (n = 1)) := by
 rw [SJ, List.getElem?_eq_getElem h, Option.getD_some, dH, he]
def inits (m : Md) : List Int := m.vars.map Vr.init
theorem GG (l : List Fo) (p : Int) : (Ak l p).1.length ≤ 6 := by
 unfold Ak
 by_cases h : DS l p ≠ 0
 · rw [if_pos h]; exact Nat.zero_le _
 · rw [if_neg h, Di]; exact (Hg (Decidable.not_not.1 h)).ah
def BF (t : Tk) : Nat := 2 ^ (Ak t.formula t.props.length).1.length
theorem dC {n : Nat} (h : n ≤ 6) : 1 ≤ 2 ^ n ∧ 2 ^ n ≤ 64 := by
 have : n = 0 ∨ n = 1 ∨ n = 2 ∨ n = 3 ∨ n = 4 ∨ n = 5 ∨ n = 6 := by omega
 rcases this with rfl | rfl | rfl | rfl | rfl | rfl | rfl <;> decide
theorem FA (t : Tk) : 1 ≤ BF t ∧ BF t ≤ 64 := dC (GG _ _)
noncomputable abbrev CR (m : Md) : Int := (codeF m (inits m)).1
theorem MS {m : Md} (h : Ah m = 0) : (codeF m (inits m)).2 = 0 ∧ 0 ≤ CR m ∧ CR m < AR m.vars := by
 have hl : (inits m).length = m.vars.length := by simp [inits]
 have h2 : (codeF m (inits m)).2 = 0 := by
  rw [Pk h hl]
  refine KB _ _ _ fun i h1 h2 => ?_
  have := (KW (BP h)).range m.vars[i] (List.getElem_mem h1)
  unfold DC at this
  simp only [inits, List.getElem_map]
  omega
 exact ⟨h2, KU h hl h2⟩
noncomputable abbrev Bz (t : Tk) (c : Int) : List Bool := (List.range t.props.length).map (SJ t.props (CO t.model.vars c))
theorem Jm {t : Tk} (h : A2 t = 0) {c : Int} (h0 : 0 ≤ c) (h1 : c < AR t.model.vars) : Ku t.model t.props c = (Bz t c, 0) := by
 obtain ⟨a1, a2, a3⟩ := CA h
 have hv : CW t.model c = (CO t.model.vars c, 0) := by unfold CW; rw [if_neg (fun k => k a3), if_pos ⟨h0, h1⟩]
 unfold Ku
 rw [if_neg (fun k => k a1), hv, if_neg (by simp)]
theorem Hq (t : Tk) (c : Int) : (Bz t c).length = t.props.length := by simp
theorem NR {t : Tk} (h : A2 t = 0) : BF t = 2 ^ Aw t.formula t.formula.length := by
 unfold BF Ak
 rw [if_neg (fun k => k (CA h).2.1), Di]
theorem Hh {t : Tk} (h : A2 t = 0) (x : List Bool) (hx : x.length = t.props.length) {c : Int} (h0 : 0 ≤ c) (h1 : c < BF t) : BL t.formula x c = ((List.range t.formula.length).map (tAt t.formula x c), 0) := by
 have hf : DS t.formula x.length = 0 := by rw [hx]; exact (CA h).2.1
 have ha : Ak t.formula x.length = (DI t.formula 0, 0) := by unfold Ak; rw [if_neg (fun k => k hf)]
 unfold BL
 rw [ha, if_neg (by simp), if_neg]
 rw [Di]
 rw [NR h] at h1
 have e : ((2 ^ Aw t.formula t.formula.length : Nat) : Int) = 2 ^ Aw t.formula t.formula.length := by simp
 omega
theorem RO {l : List Fo} (h : 0 < l.length) (f : Nat → Bool) : ∃ r, (List.range l.length).map f = f 0 :: r := by
 cases hl : l.length with
 | zero => omega
 | succ n => exact ⟨_, by rw [List.range_succ_eq_map, List.map_cons]⟩
noncomputable def DV (t : Tk) (n : Nat) : List Fo := ((List.range n).filter fun c : Nat => !tAt t.formula (Bz t (CR t.model)) c 0).map fun c : Nat => ⟨CR t.model, c⟩
theorem TR {t : Tk} {n : Nat} (h : tAt t.formula (Bz t (CR t.model)) n 0 = false) : DV t (n + 1) = DV t n ++ [⟨CR t.model, n⟩] := by
 unfold DV
 rw [List.range_succ, List.filter_append, List.map_append]
 simp [h]
theorem VZ {t : Tk} {n : Nat} (h : tAt t.formula (Bz t (CR t.model)) n 0 = true) : DV t (n + 1) = DV t n := by
 unfold DV
 rw [List.range_succ, List.filter_append, List.map_append]
 simp [h]
theorem MT (t : Tk) (n : Nat) : (DV t n).length ≤ n := by
 unfold DV
 rw [List.length_map]
 exact Nat.le_trans (List.length_filter_le _ _) (by simp)
noncomputable def BI (t : Tk) : List Fo × Int := if A2 t ≠ 0 then ([], A2 t) else (DV t (BF t), 0)

theorem KX (m : Md) (vs : List Int) (l : List Ru) (i : Nat) (h : i < l.length) : Cd m vs (l.take (i + 1)) = Cd m vs (l.take i) ++ (match Co m l[i] vs with | none => [] | some out => [(codeF m out).1]) := by
 unfold Cd
 rw [List.take_succ_eq_append_getElem h, List.filterMap_append, List.filterMap_cons, List.filterMap_nil]
 cases Co m l[i] vs <;> rfl
theorem QG {m : Md} {vs : List Int} {l : List Ru} {i : Nat} (h : i < l.length) (ho : Co m l[i] vs = none) : Cd m vs (l.take (i + 1)) = Cd m vs (l.take i) := by
 rw [KX m vs l i h, ho, List.append_nil]
theorem RA {m : Md} {vs : List Int} {l : List Ru} {i : Nat} {out : List Int} (h : i < l.length) (ho : Co m l[i] vs = some out) : Cd m vs (l.take (i + 1)) = Cd m vs (l.take i) ++ [(codeF m out).1] := by
 rw [KX m vs l i h, ho]
theorem Ta (m : Md) (vs : List Int) (l : List Ru) : (Cd m vs l).length ≤ l.length := List.length_filterMap_le _ _
theorem SH (l : List Int) (n : Nat) (hn : l.length ≤ n) : (Lib.compact l).length ≤ n := by
 unfold Lib.compact Lib.compactUpTo
 rw [List.length_map]
 exact Nat.le_trans (List.length_filter_le _ _) (by simpa using hn)
theorem RT (k : Nat) (l : List Int) : (JF k l).length ≤ k := by
 unfold JF
 rw [List.length_map]
 exact Nat.le_trans (List.length_filter_le _ _) (by simp)
theorem YL (n : Nat) : JF n [] = [] := by
 unfold JF; simp
theorem KJ {m : Md} {c : Int} (h : (CW m c).2 ≠ 0) : EF m c = ([], (CW m c).2) := by unfold EF; rw [if_pos h]
theorem Ld {m : Md} {c : Int} (h : (CW m c).2 = 0) : EF m c = (if Cd m (CO m.vars c) m.rules = [] then [c] else JF (AR m.vars).toNat (Cd m (CO m.vars c) m.rules), 0) := by
 obtain ⟨_, _, _, e⟩ := Mp h
 unfold EF
 rw [if_neg (fun k => k h), e]
theorem GD {m : Md} (h : Ah m = 0) : ∃ n : Nat, AR m.vars = n ∧ 1 ≤ n ∧ n ≤ 4096 := by
 have g := KW (BP h)
 have h1 := Dt fun v hv => (g.span v hv).1
 have h2 := g.all
 exact ⟨(AR m.vars).toNat, by omega, by omega, by omega⟩

theorem HT {m : Md} (hm : Ah m = 0) (c : Int) : ∀ x ∈ (EF m c).1, 0 ≤ x ∧ x < AR m.vars := fun x hx => by
 by_cases h : (CW m c).2 ≠ 0
 · rw [KJ h] at hx; cases hx
 · rw [Ld (Decidable.not_not.1 h)] at hx
   obtain ⟨_, h0, h1, _⟩ := Mp (Decidable.not_not.1 h)
   dsimp only at hx
   by_cases hc : Cd m (CO m.vars c) m.rules = []
   · rw [if_pos hc] at hx; rw [List.mem_singleton.1 hx]; exact ⟨h0, h1⟩
   · rw [if_neg hc] at hx
     have := Tp hx
     obtain ⟨n, hn, _, _⟩ := GD hm
     rw [hn] at this ⊢
     rw [Int.toNat_natCast] at this
     exact ⟨this.1, this.2.1⟩
noncomputable def nxM (m : Md) (c : Nat) : List Nat := (EF m c).1.map Int.toNat
structure RM (m : Md) (n : Nat) (i : Nat) (xs : List Int) : Prop where
 nodup : xs.Nodup
 range : ∀ x ∈ xs, 0 ≤ x ∧ x < n
 sound : ∀ x ∈ xs, dE (nxM m) [(CR m).toNat] x.toNat
 first : CR m ∈ xs
 done : ∀ (j : Nat) (h : j < xs.length), j < i → ∀ y ∈ (EF m xs[j]).1, y ∈ xs
theorem Nl : ∀ (n : Nat) (xs : List Int), xs.Nodup → (∀ x ∈ xs, 0 ≤ x ∧ x < (n : Int)) → xs.length ≤ n
 | 0, [], _, _ => Nat.le_refl _
 | 0, x :: _, _, h => by have := h x List.mem_cons_self; omega
 | n + 1, xs, hn, h => by
   have ih := Nl n (xs.erase n) (hn.erase _) fun x hx => by
    have h1 := h x (List.mem_of_mem_erase hx)
    have h2 : x ≠ n := fun e => by
     subst e
     exact (List.Nodup.not_mem_erase hn) hx
    omega
   have := List.length_erase (a := (n : Int)) (l := xs)
   split at this <;> omega
end Go.Sp
namespace Go.Proofs.YtajnpfgelpkijaaGreatDoor
open Go Go.Av Go.Sp
theorem VH : Cal Tryz.prog 174 := Cal.of Tryz.func174 (by kernel_rfl) (by kernel_rfl)
theorem PF : Cal Tryz.prog 175 := Cal.of Tryz.func175 (by kernel_rfl) (by kernel_rfl)
theorem fe (G : List (Nat × List D)) (q : Sl) (xs : List Int) (hb : xs.length < 4611686018427387904) : AC Tryz.prog G 174 [.val q.v] [AF q.v 3 1 Ag xs] fun e h => e = .ret (.tup []) ∧ h = [AF q.v 3 1 Ag (DL xs)] :=
 X4 q xs hb (fun blk cap zs w h1 h2 h3 => Any.slices_Sort_int Tryz.lays189 blk 0 cap zs w h1 h2 h3) fun w => Any.slices_Sort_int_none Tryz.lays189 none 0 w
theorem CompactI (G : List (Nat × List D)) (q : Sl) (xs : List Int) (hb : xs.length ≤ 9223372036854775807) (hk : (Lib.compact xs).length ≤ xs.length) : AC Tryz.prog G 175 [.val q.v] [AF q.v 3 1 Ag xs] fun e h => ∃ q' : Sl, e = .ret (.val q'.v) ∧ h = [AF q'.v 3 1 Ag (Lib.compact xs)] :=
 Qx q xs hb hk (fun blk cap zs w h1 h2 h3 => Any.slices_Compact_int Tryz.lays20 blk 0 cap zs w h1 h2 h3) fun w => Any.slices_Compact_int_empty Tryz.lays20 none 0 w
open Go Go.Av Go.Sp Go.ChangeShapes Go.WideShapes Go.ChangeAt Go.RowKit
theorem Ob {w : World} {g : Nat} {v : Value} (h : w.cell? ⟨g, 0, none⟩ = some v) : ∃ cs t fr, w.heap[g]? = some (.cells cs t fr) ∧ cs[0]? = some v := by
 unfold World.cell? at h
 split at h
 · rename_i cs t fr e
   exact ⟨cs, t, fr, e, h⟩
 · cases h
theorem L1 {P : Program} {w : World} {fuel : Nat} {t : TypeId} {ms : Array (_root_.String × TypeId)} {cs : List Value} {x : DataW Unit × List MemPlace} (ht : P.underlying t = some (.interface ms)) (h : DataW.trod (fun _ => ()) P w 0 (fun _ => true) false fuel t cs = some x) : ∃ v, cs = [v] ∧ isIf v := by
 cases fuel with
 | zero => simp [DataW.trod] at h
 | succ n =>
   unfold DataW.trod at h
   rw [ht] at h
   split at h <;> first | exact ⟨_, rfl, .inl rfl⟩ | exact ⟨_, rfl, .inr ⟨_, _, rfl⟩⟩ | simp_all
theorem Z1 {w : World} {g : Nat} {cs : Array Value} {t : TypeId} {fr : Nat × Nat} {p : Value → Prop} {v : Value} (h : w.heap[g]? = some (.cells cs t fr)) (hv : cs[0]? = some v) (hp : p v) (hone : v.oneCell' = true) : PD w (fun b => b < w.heap.size) [.sm fun _ _ v => p v] ⟨g, 0, none⟩ := by
 refine Iv h fun u x hx => ?_
 cases u with
 | succ u => simp at hx
 | zero =>
   simp only [List.getElem?_cons_zero, Option.some.injEq] at hx
   subst hx
   exact ⟨v, hv, .sm _ _ _ _ (Array.getElem?_eq_some_iff.1 h).1 h ⟨_, _, _, rfl⟩ hp hone⟩
theorem SR {v : Value} (h : isIf v) : v.oneCell' = true := by
 rcases h with rfl | ⟨a, b, rfl⟩ <;> rfl
theorem dB : Tryz.prog.globalNamed "strconv.ErrSyntax" = some 2 := by kernel_rfl
theorem eV : (Tryz.prog.globals[2]?).map (·.type) = some 88 := by kernel_rfl
theorem dG : Tryz.prog.globalNamed "strconv.ErrRange" = some 3 := by kernel_rfl
theorem fF : (Tryz.prog.globals[3]?).map (·.type) = some 88 := by kernel_rfl
theorem NF : ∃ ms, Tryz.prog.underlying 88 = some (.interface ms) := ⟨_, Tryz.underlying88⟩
theorem fE {W : World} (h : laidMetH Tryz.prog GK.laid W) (hsh : W.ShapedOpen Tryz.prog) : ∀ q ∈ GP, PD W (fun b => b < W.heap.size) q.2 ⟨q.1, 0, none⟩ := by
 intro q hq
 obtain ⟨ms, he⟩ := NF
 have hq' : q ∈ (GP0 ++ GP1) ++ GP2 := by simpa [GP, List.append_assoc] using hq
 rcases List.mem_append.1 hq' with hq | hq
 · exact bB h q hq
 · simp only [GP2, List.mem_cons, List.not_mem_nil, or_false] at hq
   rcases hq with rfl | rfl | rfl
   · obtain ⟨m, hm⟩ := Tryz.laysM146.s1_3 W hsh
     obtain ⟨cs, t, fr, h1, h2⟩ := Ob hm
     exact Z1 (p := Uq) h1 h2 ⟨m, rfl⟩ rfl
   · obtain ⟨g, t, cs, fuel, p, h1, h2, h3, h4⟩ := LR h (n := "strconv.ErrSyntax") (d := Rows.laid_strconv_ErrSyntax) (by ((repeat (first | exact List.mem_cons_self | apply List.mem_cons_of_mem)); first | done | fail))
     obtain rfl := Option.some.inj (dB.symm.trans h1)
     obtain rfl := Option.some.inj (eV.symm.trans h2)
     obtain ⟨v, e, hv⟩ := L1 he h4
     obtain ⟨t', fr, h5⟩ := D5 dB h3
     exact Z1 (p := isIf) h5 (by rw [← Array.getElem?_toList, e]; rfl) hv (SR hv)
   · obtain ⟨g, t, cs, fuel, p, h1, h2, h3, h4⟩ := LR h (n := "strconv.ErrRange") (d := Rows.laid_strconv_ErrRange) (by ((repeat (first | exact List.mem_cons_self | apply List.mem_cons_of_mem)); first | done | fail))
     obtain rfl := Option.some.inj (dG.symm.trans h1)
     obtain rfl := Option.some.inj (fF.symm.trans h2)
     obtain ⟨v, e, hv⟩ := L1 he h4
     obtain ⟨t', fr, h5⟩ := D5 dG h3
     exact Z1 (p := isIf) h5 (by rw [← Array.getElem?_toList, e]; rfl) hv (SR hv)
theorem Ic {H : Type} {enc : TypeId × Value → H} {C : Checked} {os : Os} {f : FuncId} {fn : Func} {s : OpenSpec} {conds : List PathCond} {apart : Bool} {laid : List (_root_.String × DataW Unit)} (modest : Bool) (w0 : World) (args : Array Value) (hos : w0.os = os)
 (hsh : (w0.forCall (fun _ _ => 0) ⟨#[], args, []⟩).Shaped C.prog)
 (hok : Input.okWideB C.prog (w0.forCall (fun _ _ => 0) ⟨#[], args, []⟩) f ⟨#[], args, []⟩ = true)
 (hrow : s.preRow enc C.prog fn conds apart laid (w0.forCall (fun _ _ => 0) ⟨#[], args, []⟩).memory args) :
 ∃ (w : World) (tape : Tape) (i : Input), w.os = os ∧ (w.forCall tape i).Shaped C.prog ∧ i.vars = [] ∧ Input.okWide C.prog (w.forCall tape i) .any w.heap.size f i ∧
  s.preRow enc C.prog fn conds apart laid (w.forCall tape i).memory i.args ∧ ({ modest := modest } : Assume).holds C.prog (lone (Frame.enter C.prog f i.args .normal) [] (w.forCall tape i)) :=
 ⟨w0, fun _ _ => 0, ⟨#[], args, []⟩, hos, hsh, (Input.okWide_of_okWideB (base := 0) hok).1, (Input.okWide_of_okWideB hok).2, hrow, by
  simp only [Assume.holds]
  exact ⟨by simp, by simp, fun _ => Modest.zero, by simp, by simp⟩⟩
end Go.Proofs.YtajnpfgelpkijaaGreatDoor
