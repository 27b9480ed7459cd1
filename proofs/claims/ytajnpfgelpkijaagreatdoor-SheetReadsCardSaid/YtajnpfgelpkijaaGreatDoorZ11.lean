/- A bundle of this claim's own texts: G35 G36 G37 G38 G39 G40 G41 G42 G43 G44 G45 G46 G47 G48 G49. -/
import Derived.Lib.ItoaNum
import Derived.Lib.AtoiAll
import Derived.Lib.Split
import Derived.Lib.Strings
import Derived.Lib.Bytealg
import Derived.Test.YtajnpfgelpkijaaGreatDoorZ2
import Derived.Test.YtajnpfgelpkijaaGreatDoorZ10
set_option linter.unusedVariables false
set_option linter.unusedSimpArgs false
set_option maxRecDepth 100000
set_option maxHeartbeats 4000000
namespace Go.Sp
open Go Go.Av

def markL (k : Int) : List UInt8 := (marksL[k.toNat]?).getD []
def wordL (vars : List Vr) (o : Fo) : List UInt8 :=
 if o.kind = 1 then Lib.itoa o.val
 else if o.kind = 2 then ((vars[o.val.toNat]?).map fun v => v.name.data.toList).getD []
 else if o.kind = 13 then 80 :: Lib.itoa o.val
 else markL o.kind
def termL (vars : List Vr) (l : List Fo) : List UInt8 := l.flatMap fun o => 32 :: wordL vars o
theorem termL_snoc (vars : List Vr) (l : List Fo) (o : Fo) : termL vars (l ++ [o]) = termL vars l ++ 32 :: wordL vars o := by unfold termL; simp
theorem termL_at (vars : List Vr) (l : List Fo) (i : Nat) (h : i < l.length) : termL vars (l.take (i + 1)) = termL vars (l.take i) ++ 32 :: wordL vars l[i] := by
 rw [List.take_succ_eq_append_getElem h, termL_snoc]
def varW : List UInt8 := [118, 97, 114, 32]
def ruleW : List UInt8 := [114, 117, 108, 101]
def setW : List UInt8 := [115, 101, 116, 32]
def propW : List UInt8 := [112, 114, 111, 112]
def checkW : List UInt8 := [99, 104, 101, 99, 107]
def varL (v : Vr) : List UInt8 := varW ++ v.name.data.toList ++ 32 :: Lib.itoa v.low ++ 32 :: Lib.itoa v.high ++ 32 :: Lib.itoa v.init ++ [10]
def setL (vars : List Vr) (s : St) : List UInt8 := setW ++ ((vars[s.var.toNat]?).map fun v => v.name.data.toList).getD [] ++ termL vars s.val ++ [10]
def ruleL (vars : List Vr) (r : Ru) : List UInt8 := ruleW ++ termL vars r.guard ++ [10] ++ r.sets.flatMap (setL vars)
def propL (vars : List Vr) (l : List Fo) : List UInt8 := propW ++ termL vars l ++ [10]
def checkL (vars : List Vr) (l : List Fo) : List UInt8 := checkW ++ termL vars l ++ [10]
def shownL (t : Tk) : List UInt8 := t.model.vars.flatMap varL ++ t.model.rules.flatMap (ruleL t.model.vars) ++ t.props.flatMap (propL t.model.vars) ++ checkL t.model.vars t.formula
noncomputable def shownF (t : Tk) : ByteArray × Int := if taskF t ≠ 0 then (.empty, taskF t) else (tx (shownL t), 0)
theorem flat_at {α : Type} (f : α → List UInt8) (l : List α) (i : Nat) (h : i < l.length) : (l.take (i + 1)).flatMap f = (l.take i).flatMap f ++ f l[i] := by
 rw [List.take_succ_eq_append_getElem h, List.flatMap_append]; simp
theorem dec_small {n : Nat} (h : n < 10) : Lib.decDigits n = [UInt8.ofNat (48 + n)] := by rw [Lib.decDigits, dif_pos h]
theorem dec_big {n : Nat} (h : ¬ n < 10) : Lib.decDigits n = Lib.decDigits (n / 10) ++ [UInt8.ofNat (48 + n % 10)] := by rw [Lib.decDigits, dif_neg h]
theorem dec_len (n : Nat) : ∀ k, n < 10 ^ k → 0 < k → (Lib.decDigits n).length ≤ k := by
 induction n using Nat.strongRecOn with
 | _ n ih =>
   intro k hk h0
   by_cases h : n < 10
   · rw [dec_small h]; simp only [List.length_cons, List.length_nil]; omega
   · obtain ⟨j, rfl⟩ : ∃ j, k = j + 1 := ⟨k - 1, by omega⟩
     have hj : 0 < j := by
      rcases Nat.eq_zero_or_pos j with rfl | hj
      · simp at hk; omega
      · exact hj
     rw [Nat.pow_succ] at hk
     have := ih (n / 10) (by omega) j (by omega) hj
     rw [dec_big h, List.length_append]
     simp only [List.length_cons, List.length_nil]; omega
theorem itoa_neg {n : Int} (h : n < 0) : Lib.itoa n = 45 :: Lib.itoa (-n) := by
 unfold Lib.itoa
 rw [if_pos h, if_neg (by omega), show (-n).toNat = n.natAbs by omega]
theorem itoa_len {n : Int} (h1 : -2000000000 ≤ n) (h2 : n ≤ 2000000000) : (Lib.itoa n).length ≤ 11 := by
 unfold Lib.itoa
 split
 · have := dec_len n.natAbs 10 (by omega) (by decide)
   rw [List.length_cons]; omega
 · have := dec_len n.toNat 10 (by omega) (by decide)
   omega
structure OpP (nv np : Int) (o : Fo) : Prop where
 lo : 1 ≤ o.kind
 hi : o.kind ≤ 18
 num : o.kind = 1 → -1000 ≤ o.val ∧ o.val ≤ 1000
 var : o.kind = 2 → 0 ≤ o.val ∧ o.val < nv
 prop : o.kind = 13 → 0 ≤ o.val ∧ o.val < np
 none : o.kind ≠ 1 → o.kind ≠ 2 → o.kind ≠ 13 → o.val = 0
theorem OpP.of_expr {o : Fo} {nv np : Int} (h : opZ o.kind o.val nv = 0) : OpP nv np o := by
 unfold opZ at h
 by_cases h1 : ¬ okP o.kind
 · rw [if_pos h1] at h; cases h
 rw [if_neg h1] at h
 have h1' : 1 ≤ o.kind ∧ o.kind ≤ 12 := Decidable.not_not.1 h1
 by_cases h2 : (o.kind = 1 ∧ (o.val < -1000 ∨ 1000 < o.val)) ∨ (o.kind = 2 ∧ (o.val < 0 ∨ nv ≤ o.val)) ∨ (2 < o.kind ∧ o.val ≠ 0)
 · rw [if_pos h2] at h; cases h
 exact ⟨by omega, by omega, fun e => by omega, fun e => by omega, fun e => by omega, fun e1 e2 e3 => by omega⟩
theorem OpP.of_form {o : Fo} {nv np : Int} (h : fitsZ o.kind o.val np = 0) (hp : (partsOf o.kind).2 = 0) : OpP nv np o := by
 have hk : ¬ (o.kind < 1 ∨ 18 < o.kind) := fun k => by rw [partsOf_no _ k] at hp; cases hp
 unfold fitsZ at h
 by_cases h1 : o.kind < 8
 · rw [if_pos h1] at h; cases h
 rw [if_neg h1] at h
 by_cases h2 : (o.kind = 13 ∧ (o.val < 0 ∨ np ≤ o.val)) ∨ (o.kind ≠ 13 ∧ o.val ≠ 0)
 · rw [if_pos h2] at h; cases h
 exact ⟨by omega, by omega, fun e => by omega, fun e => by omega, fun e => by omega, fun e1 e2 e3 => by omega⟩
structure TmP (nv np : Int) (l : List Fo) : Prop where
 few : l.length ≤ 60
 pos : 0 < l.length
 ops : ∀ o ∈ l, OpP nv np o
theorem TmP.of_kind {l : List Fo} {nv np : Int} {b : Bool} (h : kindF l nv b = 0) : TmP nv np l := by
 have h1 := kindF_ok h
 obtain ⟨g, _, _⟩ := goodE_of (l := l) (vars := nv) (by rw [h1])
 refine ⟨g.h60, g.pos, fun o ho => ?_⟩
 obtain ⟨i, hi, rfl⟩ := List.getElem_of_mem ho
 exact .of_expr (g.op i hi)
theorem TmP.of_form {l : List Fo} {nv np : Int} (h : formF l np = 0) : TmP nv np l := by
 obtain ⟨_, _, he, hf, _⟩ := formF_ok h
 obtain ⟨h60, hpos, _, _, _⟩ := endsOf_ok (l := l) (es := (endsOf l).1) (Prod.ext rfl he)
 refine ⟨h60, hpos, fun o ho => ?_⟩
 obtain ⟨i, hi, rfl⟩ := List.getElem_of_mem ho
 exact .of_form (hf i hi) (well_kind hi (all_well he i hi))
structure TkP (t : Tk) : Prop where
 vars6 : t.model.vars.length ≤ 6
 names : ∀ v ∈ t.model.vars, nameP v.name
 range : ∀ v ∈ t.model.vars, -1000 ≤ v.low ∧ v.low ≤ 1000 ∧ -1000 ≤ v.high ∧ v.high ≤ 1000 ∧ -1000 ≤ v.init ∧ v.init ≤ 1000
 nodup : (t.model.vars.map Vr.name).Nodup
 rules : t.model.rules.length ≤ 12
 guards : ∀ r ∈ t.model.rules, TmP t.model.vars.length 0 r.guard
 sets6 : ∀ r ∈ t.model.rules, r.sets.length ≤ 6
 sets : ∀ r ∈ t.model.rules, ∀ s ∈ r.sets, 0 ≤ s.var ∧ s.var < t.model.vars.length ∧ TmP t.model.vars.length 0 s.val
 props6 : t.props.length ≤ 6
 props : ∀ p ∈ t.props, TmP t.model.vars.length 0 p
 form : TmP t.model.vars.length t.props.length t.formula
theorem varsE_names : ∀ (l : List Vr) (seen : List ByteArray) (n : Int), varsE l seen n = 0 → (∀ v ∈ l, nameP v.name ∧ rangeV v ∧ v.name ∉ seen) ∧ (l.map Vr.name).Nodup
 | [], _, _, _ => ⟨fun v h => (by cases h), List.nodup_nil⟩
 | v :: l, seen, n, h => by
   rw [varsE] at h
   by_cases c1 : ¬ nameP v.name
   · rw [if_pos c1] at h; cases h
   rw [if_neg c1] at h
   by_cases c2 : v.name ∈ seen
   · rw [if_pos c2] at h; cases h
   rw [if_neg c2] at h
   by_cases c3 : ¬ rangeV v
   · rw [if_pos c3] at h; cases h
   rw [if_neg c3] at h
   by_cases c4 : 64 < spanV v
   · rw [if_pos c4] at h; cases h
   rw [if_neg c4] at h
   by_cases c5 : 4096 < n * spanV v
   · rw [if_pos c5] at h; cases h
   rw [if_neg c5] at h
   obtain ⟨h1, h2⟩ := varsE_names l _ _ h
   refine ⟨fun w hw => ?_, ?_⟩
   · rcases List.mem_cons.1 hw with rfl | hw
     · exact ⟨Decidable.not_not.1 c1, Decidable.not_not.1 c3, c2⟩
     · obtain ⟨a1, a2, a3⟩ := h1 w hw
       exact ⟨a1, a2, fun k => a3 (List.mem_append.2 (.inl k))⟩
   · rw [List.map_cons, List.nodup_cons]
     refine ⟨fun k => ?_, h2⟩
     obtain ⟨w, hw, e⟩ := List.mem_map.1 k
     exact (h1 w hw).2.2 (by rw [e]; simp)
theorem propsE_good (n : Int) : ∀ l : List (List Fo), propsE n l = 0 → ∀ p ∈ l, kindF p n true = 0
 | [], _, r, h => by cases h
 | a :: l, h, r, hr => by
   rw [propsE] at h
   by_cases c : kindF a n true ≠ 0
   · rw [if_pos c] at h; exact absurd h c
   rw [if_neg c] at h
   rcases List.mem_cons.1 hr with rfl | hr
   · exact Decidable.not_not.1 c
   · exact propsE_good n l h r hr
theorem ruleF_good {r : Ru} {n : Int} (h : ruleF r n = 0) : r.sets.length ≤ 6 ∧ kindF r.guard n true = 0 ∧ ∀ s ∈ r.sets, 0 ≤ s.var ∧ s.var < n ∧ kindF s.val n false = 0 := by
 unfold ruleF at h
 by_cases c1 : 6 < r.sets.length
 · rw [if_pos c1] at h; cases h
 rw [if_neg c1] at h
 by_cases c2 : kindF r.guard n true ≠ 0
 · rw [if_pos c2] at h; exact absurd h c2
 rw [if_neg c2] at h
 refine ⟨by omega, Decidable.not_not.1 c2, fun s hs => ?_⟩
 obtain ⟨a, b, c, _⟩ := (setsE_good n r.sets [] h).1 s hs
 exact ⟨a, b, c⟩
theorem TkP.of {t : Tk} (h : taskF t = 0) : TkP t := by
 obtain ⟨hp, hf, hm⟩ := taskF_ok h
 have hv := modelF_vars hm
 have hv' := hv
 unfold varsF at hv'
 by_cases c6 : 6 < t.model.vars.length
 · rw [if_pos c6] at hv'; cases hv'
 rw [if_neg c6] at hv'
 obtain ⟨n1, n2⟩ := varsE_names _ _ _ hv'
 have hr : rulesE t.model.vars.length t.model.rules = 0 := by
  have h12 := modelF_few hm
  unfold modelF at hm
  rw [if_neg (fun k => k hv), if_neg (by omega)] at hm
  exact hm
 have hpe : t.props.length ≤ 6 ∧ propsE t.model.vars.length t.props = 0 := by
  unfold propsF at hp
  rw [if_neg (fun k => k hm)] at hp
  by_cases c : 6 < t.props.length
  · rw [if_pos c] at hp; cases hp
  · rw [if_neg c] at hp; exact ⟨by omega, hp⟩
 have hrg := rulesE_good _ _ hr
 exact
 { vars6 := by omega
   names := fun v hv => (n1 v hv).1
   range := fun v hv => by obtain ⟨a, b, c, d, e⟩ := (n1 v hv).2.1; omega
   nodup := n2
   rules := modelF_few hm
   guards := fun r hr => .of_kind (ruleF_good (hrg r hr)).2.1
   sets6 := fun r hr => (ruleF_good (hrg r hr)).1
   sets := fun r hr s hs => by
    obtain ⟨a, b, c⟩ := (ruleF_good (hrg r hr)).2.2 s hs
    exact ⟨a, b, .of_kind c⟩
   props6 := hpe.1
   props := fun p hp => .of_kind (propsE_good _ _ hpe.2 p hp)
   form := .of_form hf }
theorem name_len {s : ByteArray} (h : nameP s) : s.data.toList.length ≤ 8 := h.1.2
theorem mark_len (k : Int) : (markL k).length ≤ 3 := by
 unfold markL
 cases h : marksL[k.toNat]? with
 | none => exact Nat.zero_le _
 | some l =>
   have := List.mem_of_getElem? h
   have key : ∀ l ∈ marksL, l.length ≤ 3 := by decide
   exact key l this
theorem word_len {vars : List Vr} (hn : ∀ v ∈ vars, nameP v.name) {o : Fo} {np : Int} (h : OpP vars.length np o) (hp : np ≤ 6) : (wordL vars o).length ≤ 12 := by
 unfold wordL
 split
 · have := h.num (by assumption)
   have := itoa_len (n := o.val) (by omega) (by omega)
   omega
 split
 · have hv := h.var (by assumption)
   have hi : o.val.toNat < vars.length := by omega
   rw [List.getElem?_eq_getElem hi]
   have := name_len (hn _ (List.getElem_mem hi))
   simp only [Option.map_some, Option.getD_some]; omega
 split
 · have := h.prop (by assumption)
   have := itoa_len (n := o.val) (by omega) (by omega)
   rw [List.length_cons]; omega
 · have := mark_len o.kind; omega
theorem term_len {vars : List Vr} (hn : ∀ v ∈ vars, nameP v.name) {np : Int} (hp : np ≤ 6) : ∀ l : List Fo, (∀ o ∈ l, OpP vars.length np o) → (termL vars l).length ≤ 13 * l.length
 | [], _ => Nat.zero_le _
 | o :: l, h => by
   have h1 := word_len hn (h o List.mem_cons_self) hp
   have h2 := term_len hn hp l fun x hx => h x (List.mem_cons_of_mem _ hx)
   have e : termL vars (o :: l) = 32 :: wordL vars o ++ termL vars l := by unfold termL; simp
   rw [e, List.length_append, List.length_cons, List.length_cons]; omega
def spl (c : UInt8) : List UInt8 → List (List UInt8)
 | [] => [[]]
 | b :: l => if b = c then [] :: spl c l else match spl c l with
   | [] => [[b]]
   | w :: ws => (b :: w) :: ws
def jn (c : UInt8) : List (List UInt8) → List UInt8
 | [] => []
 | [w] => w
 | w :: v :: ws => w ++ c :: jn c (v :: ws)
theorem spl_ne (c : UInt8) (l : List UInt8) : spl c l ≠ [] := by
 cases l with
 | nil => simp [spl]
 | cons b l =>
   rw [spl]; split
   · simp
   · split <;> simp
theorem jn_cons (c : UInt8) (w : List UInt8) {ws : List (List UInt8)} (h : ws ≠ []) : jn c (w :: ws) = w ++ c :: jn c ws := by
 cases ws with
 | nil => exact absurd rfl h
 | cons v ws => rfl
theorem jn_head (c b : UInt8) (w : List UInt8) (ws : List (List UInt8)) : jn c ((b :: w) :: ws) = b :: jn c (w :: ws) := by
 cases ws <;> rfl
theorem jn_spl (c : UInt8) : ∀ l : List UInt8, jn c (spl c l) = l
 | [] => rfl
 | b :: l => by
   have ih := jn_spl c l
   rw [spl]
   split
   · rename_i e
     rw [jn_cons _ _ (spl_ne c l), ih, e]; rfl
   · split
     · rename_i h; exact absurd h (spl_ne c l)
     · rename_i h
       rw [jn_head, ← h, ih]
theorem spl_no (c : UInt8) : ∀ (l : List UInt8), ∀ w ∈ spl c l, c ∉ w
 | [], w, h => by simp [spl] at h; subst h; simp
 | b :: l, w, h => by
   have ih := spl_no c l
   rw [spl] at h
   split at h
   · rcases List.mem_cons.1 h with rfl | h
     · simp
     · exact ih w h
   · rename_i hb
     split at h
     · rename_i e; exact absurd e (spl_ne c l)
     · rename_i v vs e
       rcases List.mem_cons.1 h with rfl | h
       · intro k
         rcases List.mem_cons.1 k with k | k
         · exact hb k.symm
         · exact ih v (by rw [e]; exact List.mem_cons_self) k
       · exact ih w (by rw [e]; exact List.mem_cons_of_mem _ h)
theorem spl_word (c : UInt8) : ∀ (w : List UInt8), c ∉ w → spl c w = [w]
 | [], _ => rfl
 | b :: w, h => by
   rw [spl, if_neg (fun e => h (by rw [e]; exact List.mem_cons_self)), spl_word c w fun k => h (List.mem_cons_of_mem _ k)]
theorem spl_app (c : UInt8) : ∀ (w l : List UInt8), c ∉ w → spl c (w ++ c :: l) = w :: spl c l
 | [], l, _ => by rw [List.nil_append, spl, if_pos rfl]
 | b :: w, l, h => by
   rw [List.cons_append, spl, if_neg (fun e => h (by rw [e]; exact List.mem_cons_self)), spl_app c w l fun k => h (List.mem_cons_of_mem _ k)]
theorem spl_jn (c : UInt8) : ∀ (ws : List (List UInt8)), ws ≠ [] → (∀ w ∈ ws, c ∉ w) → spl c (jn c ws) = ws
 | [], h, _ => absurd rfl h
 | [w], _, h => spl_word c w (h w List.mem_cons_self)
 | w :: v :: ws, _, h => by
   rw [jn, spl_app c w _ (h w List.mem_cons_self), spl_jn c (v :: ws) (by simp) fun x hx => h x (List.mem_cons_of_mem _ hx)]
theorem jn_term (vars : List Vr) (w : List UInt8) : ∀ l : List Fo, jn 32 (w :: l.map (wordL vars)) = w ++ termL vars l := by
 intro l
 induction l generalizing w with
 | nil => simp [jn, termL]
 | cons o l ih =>
   rw [List.map_cons, jn_cons _ _ (by simp), ih (wordL vars o)]
   unfold termL
   simp
theorem dec_digits (n : Nat) : ∀ b ∈ Lib.decDigits n, 48 ≤ b.toNat ∧ b.toNat ≤ 57 := by
 induction n using Nat.strongRecOn with
 | _ n ih =>
   intro b hb
   have dg : ∀ k, k < 10 → (UInt8.ofNat (48 + k)).toNat = 48 + k := fun k hk => by
    rw [UInt8.toNat_ofNat']; omega
   by_cases h : n < 10
   · rw [dec_small h, List.mem_singleton] at hb
     rw [hb, dg n h]; omega
   · rw [dec_big h] at hb
     rcases List.mem_append.1 hb with hb | hb
     · exact ih (n / 10) (by omega) b hb
     · rw [List.mem_singleton] at hb
       rw [hb, dg _ (by omega)]; omega
theorem dec_ne (n : Nat) : Lib.decDigits n ≠ [] := by
 by_cases h : n < 10
 · rw [dec_small h]; simp
 · rw [dec_big h]; simp
def valD (l : List UInt8) : Nat := l.foldl (fun a b => a * 10 + (b.toNat - 48)) 0
theorem valD_dec (n : Nat) : valD (Lib.decDigits n) = n := by
 induction n using Nat.strongRecOn with
 | _ n ih =>
   have dg : ∀ k, k < 10 → (UInt8.ofNat (48 + k)).toNat - 48 = k := fun k hk => by
    rw [UInt8.toNat_ofNat']; omega
   by_cases h : n < 10
   · rw [dec_small h]
     show 0 * 10 + ((UInt8.ofNat (48 + n)).toNat - 48) = n
     rw [dg n h]; omega
   · rw [dec_big h]
     have := ih (n / 10) (by omega)
     unfold valD at this ⊢
     rw [List.foldl_append, this]
     show n / 10 * 10 + ((UInt8.ofNat (48 + n % 10)).toNat - 48) = n
     rw [dg _ (by omega)]; omega
theorem itoa_inj {a b : Int} (h : Lib.itoa a = Lib.itoa b) : a = b := by
 have no : ∀ n : Nat, ∀ l, Lib.decDigits n ≠ 45 :: l := fun n l e => by
  have := dec_digits n 45 (by rw [e]; exact List.mem_cons_self)
  have h45 : (45 : UInt8).toNat = 45 := rfl
  omega
 unfold Lib.itoa at h
 by_cases ha : a < 0
 · by_cases hb : b < 0
   · rw [if_pos ha, if_pos hb] at h
     have := congrArg valD (List.cons.inj h).2
     rw [valD_dec, valD_dec] at this; omega
   · rw [if_pos ha, if_neg hb] at h; exact absurd h.symm (no _ _)
 · by_cases hb : b < 0
   · rw [if_neg ha, if_pos hb] at h; exact absurd h (no _ _)
   · rw [if_neg ha, if_neg hb] at h
     have := congrArg valD h
     rw [valD_dec, valD_dec] at this; omega
theorem itoa_bytes (n : Int) : ∀ b ∈ Lib.itoa n, b.toNat = 45 ∨ (48 ≤ b.toNat ∧ b.toNat ≤ 57) := fun b hb => by
 unfold Lib.itoa at hb
 split at hb
 · rcases List.mem_cons.1 hb with rfl | hb
   · exact .inl rfl
   · exact .inr (dec_digits _ b hb)
 · exact .inr (dec_digits _ b hb)
theorem mark_bytes (k : Int) : ∀ b ∈ markL k, b.toNat ≠ 32 ∧ b.toNat ≠ 10 := by
 unfold markL
 cases h : marksL[k.toNat]? with
 | none => intro b hb; simp at hb
 | some l =>
   have := List.mem_of_getElem? h
   have key : ∀ l ∈ marksL, ∀ b ∈ l, b.toNat ≠ 32 ∧ b.toNat ≠ 10 := by decide
   exact key l this
theorem name_bytes {s : ByteArray} (h : nameP s) : ∀ b ∈ s.data.toList, (97 ≤ b.toNat ∧ b.toNat ≤ 122) ∨ (48 ≤ b.toNat ∧ b.toNat ≤ 57) := fun b hb => by
 obtain ⟨i, hi, rfl⟩ := List.getElem_of_mem hb
 rcases h.2.2.2 i hi with h | h
 · exact .inl h
 · exact .inr ⟨h.1, h.2.1⟩
theorem name_first {s : ByteArray} (h : nameP s) : ∃ b l, s.data.toList = b :: l ∧ 97 ≤ b.toNat ∧ b.toNat ≤ 122 := by
 cases e : s.data.toList with
 | nil => have := h.1.1; rw [e] at this; simp at this
 | cons b l =>
   have := h.2.2.2 0 (by rw [e]; simp)
   have e0 : s.data.toList[0]'(by rw [e]; simp) = b := by simp [e]
   rw [e0] at this
   rcases this with h | h
   · exact ⟨b, l, rfl, h.1, h.2⟩
   · exact absurd rfl h.2.2
theorem word_bytes {vars : List Vr} (hn : ∀ v ∈ vars, nameP v.name) {o : Fo} {np : Int} (h : OpP vars.length np o) : ∀ b ∈ wordL vars o, b.toNat ≠ 32 ∧ b.toNat ≠ 10 := by
 unfold wordL
 split
 · intro b hb; have := itoa_bytes _ b hb; omega
 split
 · have hv := h.var (by assumption)
   have hi : o.val.toNat < vars.length := by omega
   rw [List.getElem?_eq_getElem hi]
   intro b hb
   have := name_bytes (hn _ (List.getElem_mem hi)) b hb
   omega
 split
 · intro b hb
   rcases List.mem_cons.1 hb with rfl | hb
   · exact ⟨by decide, by decide⟩
   · have := itoa_bytes _ b hb; omega
 · exact mark_bytes _
noncomputable def numI (w : List UInt8) : Int :=
 open Classical in if h : ∃ n : Int, (-1000 ≤ n ∧ n ≤ 1000) ∧ Lib.itoa n = w then Classical.choose h else 5000
theorem numI_itoa {n : Int} (h : -1000 ≤ n ∧ n ≤ 1000) : numI (Lib.itoa n) = n := by
 have hx : ∃ m : Int, (-1000 ≤ m ∧ m ≤ 1000) ∧ Lib.itoa m = Lib.itoa n := ⟨n, h, rfl⟩
 unfold numI
 rw [dif_pos hx]
 exact itoa_inj (Classical.choose_spec hx).2
theorem numI_of {w : List UInt8} (h : numI w < 5000) : (-1000 ≤ numI w ∧ numI w ≤ 1000) ∧ Lib.itoa (numI w) = w := by
 unfold numI at h ⊢
 split
 · rename_i hx; exact Classical.choose_spec hx
 · rename_i hx; rw [dif_neg hx] at h; omega
theorem numI_no {w : List UInt8} (h : ∀ n : Int, -1000 ≤ n → n ≤ 1000 → Lib.itoa n ≠ w) : numI w = 5000 := by
 unfold numI
 rw [dif_neg]
 rintro ⟨n, ⟨h1, h2⟩, h3⟩
 exact h n h1 h2 h3
def varI : List Vr → List UInt8 → Int
 | [], _ => -1
 | v :: l, w => if v.name.data.toList = w then 0 else if varI l w = -1 then -1 else varI l w + 1
theorem varI_ge : ∀ (l : List Vr) (w : List UInt8), -1 ≤ varI l w
 | [], _ => by simp [varI]
 | v :: l, w => by
   have := varI_ge l w
   rw [varI]; split
   · omega
   · split <;> omega
theorem varI_of : ∀ {l : List Vr} {w : List UInt8}, 0 ≤ varI l w → ∃ h : (varI l w).toNat < l.length, (l[(varI l w).toNat]'h).name.data.toList = w
 | [], w, h => by simp [varI] at h
 | v :: l, w, h => by
   rw [varI] at h ⊢
   split
   · rename_i e; exact ⟨by simp, e⟩
   · rename_i e
     rw [if_neg e] at h
     split
     · rename_i e2; rw [if_pos e2] at h; omega
     · rename_i e2
       rw [if_neg e2] at h
       have hge := varI_ge l w
       obtain ⟨q1, q2⟩ := varI_of (l := l) (w := w) (by omega)
       have e3 : (varI l w + 1).toNat = (varI l w).toNat + 1 := by omega
       refine ⟨by rw [e3]; simpa using q1, ?_⟩
       simp only [e3, List.getElem_cons_succ]
       exact q2
theorem varI_no {l : List Vr} {w : List UInt8} (h : ∀ v ∈ l, v.name.data.toList ≠ w) : varI l w = -1 := by
 induction l with
 | nil => rfl
 | cons v l ih => rw [varI, if_neg (h v List.mem_cons_self), if_pos (ih fun x hx => h x (List.mem_cons_of_mem _ hx))]
theorem name_inj {a b : ByteArray} (h : a.data.toList = b.data.toList) : a = b := by rw [← tx_list a, h, tx_list]
theorem varI_at : ∀ {l : List Vr}, (l.map Vr.name).Nodup → ∀ (i : Nat) (h : i < l.length), varI l l[i].name.data.toList = i
 | [], _, i, h => by simp at h
 | v :: l, hn, i, h => by
   rw [List.map_cons, List.nodup_cons] at hn
   cases i with
   | zero =>
     show varI (v :: l) v.name.data.toList = _
     rw [varI, if_pos rfl]; rfl
   | succ i =>
     have hi : i < l.length := by simpa using h
     have ih := varI_at hn.2 i hi
     have e : (v :: l)[i + 1] = l[i] := rfl
     rw [e, varI, if_neg, ih, if_neg (by omega)]
     · omega
     · intro k
       exact hn.1 (List.mem_map.2 ⟨l[i], List.getElem_mem hi, (name_inj k).symm⟩)
def markK (w : List UInt8) : Option Nat := (List.range 16).find? fun i => decide (markL (i + 3 : Nat) = w ∧ w ≠ [])
theorem markK_of {w : List UInt8} {i : Nat} (h : markK w = some i) : i < 16 ∧ markL (i + 3 : Nat) = w ∧ w ≠ [] := by
 have h1 := List.find?_some h
 have h2 := List.mem_of_find?_eq_some h
 have h3 := of_decide_eq_true h1
 exact ⟨List.mem_range.1 h2, h3.1, h3.2⟩
theorem markK_mark : ∀ i : Fin 16, i.val ≠ 10 → markK (markL ((i.val + 3 : Nat) : Int)) = some i.val ∧ markL ((i.val + 3 : Nat) : Int) ≠ [] := by decide
theorem mark_what : ∀ i : Fin 16, markL ((i.val + 3 : Nat) : Int) = [] ∨ markL ((i.val + 3 : Nat) : Int) = [121, 101, 115] ∨ markL ((i.val + 3 : Nat) : Int) = [110, 111] ∨ ∃ b ∈ ([43, 45, 42, 61, 60, 38, 124, 33, 88, 85, 82, 70, 71] : List UInt8), markL ((i.val + 3 : Nat) : Int) = [b] := by decide
theorem markK_no {w : List UInt8} (h : ∀ i : Fin 16, markL ((i.val + 3 : Nat) : Int) = w → w = []) : markK w = none := by
 unfold markK
 rw [List.find?_eq_none]
 intro i hi k
 obtain ⟨k1, k2⟩ := of_decide_eq_true k
 exact k2 (h ⟨i, List.mem_range.1 hi⟩ k1)
theorem markK_name {s : ByteArray} (h : nameP s) : markK s.data.toList = none := by
 refine markK_no fun i hi => ?_
 obtain ⟨b, l, e, h1, h2⟩ := name_first h
 exfalso
 rcases mark_what i with k | k | k | ⟨c, hc, k⟩
 · rw [hi, e] at k; cases k
 · rw [hi] at k
   exact h.2.1 (name_inj k)
 · rw [hi] at k
   exact h.2.2.1 (name_inj k)
 · rw [hi, e] at k
   obtain ⟨rfl, _⟩ := List.cons.inj k
   have key : ∀ c ∈ ([43, 45, 42, 61, 60, 38, 124, 33, 88, 85, 82, 70, 71] : List UInt8), ¬ (97 ≤ c.toNat ∧ c.toNat ≤ 122) := by decide
   exact key b hc ⟨h1, h2⟩
theorem dec_first (n : Nat) : ∃ b l, Lib.decDigits n = b :: l ∧ 48 ≤ b.toNat ∧ b.toNat ≤ 57 := by
 cases e : Lib.decDigits n with
 | nil => exact absurd e (dec_ne n)
 | cons b l => exact ⟨b, l, rfl, dec_digits n b (by rw [e]; exact List.mem_cons_self)⟩
theorem itoa_first (n : Int) : (∃ b l, Lib.itoa n = b :: l ∧ 48 ≤ b.toNat ∧ b.toNat ≤ 57) ∨ ∃ b l, Lib.itoa n = 45 :: b :: l := by
 unfold Lib.itoa
 split
 · obtain ⟨b, l, e, _⟩ := dec_first n.natAbs
   exact .inr ⟨b, l, by rw [e]⟩
 · exact .inl (dec_first _)
theorem markK_num (n : Int) : markK (Lib.itoa n) = none := by
 refine markK_no fun i hi => ?_
 exfalso
 rcases itoa_first n with ⟨b, l, e, h1, h2⟩ | ⟨b, l, e⟩
 · rcases mark_what i with k | k | k | ⟨c, hc, k⟩
   · rw [hi, e] at k; cases k
   · rw [hi, e] at k; obtain ⟨rfl, _⟩ := List.cons.inj k; exact absurd h2 (by decide)
   · rw [hi, e] at k; obtain ⟨rfl, _⟩ := List.cons.inj k; exact absurd h2 (by decide)
   · rw [hi, e] at k
     obtain ⟨rfl, _⟩ := List.cons.inj k
     have key : ∀ c ∈ ([43, 45, 42, 61, 60, 38, 124, 33, 88, 85, 82, 70, 71] : List UInt8), ¬ (48 ≤ c.toNat ∧ c.toNat ≤ 57) := by decide
     exact key b hc ⟨h1, h2⟩
 · rcases mark_what i with k | k | k | ⟨c, hc, k⟩
   · rw [hi, e] at k; cases k
   · rw [hi, e] at k; exact absurd (List.cons.inj k).1 (by decide)
   · rw [hi, e] at k; exact absurd (List.cons.inj k).1 (by decide)
   · rw [hi, e] at k; exact absurd (List.cons.inj k).2 (by simp)
theorem markK_prop (l : List UInt8) : markK (80 :: l) = none := by
 refine markK_no fun i hi => ?_
 exfalso
 rcases mark_what i with k | k | k | ⟨c, hc, k⟩
 · rw [hi] at k; cases k
 · rw [hi] at k; exact absurd (List.cons.inj k).1 (by decide)
 · rw [hi] at k; exact absurd (List.cons.inj k).1 (by decide)
 · rw [hi] at k
   obtain ⟨rfl, _⟩ := List.cons.inj k
   exact absurd hc (by decide)
def propI : List UInt8 → Int
 | [80, d] => if 48 ≤ d.toNat ∧ d.toNat ≤ 53 then (d.toNat : Int) - 48 else -1
 | _ => -1
theorem propI_at {n : Int} (h0 : 0 ≤ n) (h1 : n < 6) : propI (80 :: Lib.itoa n) = n := by
 have e : Lib.itoa n = [UInt8.ofNat (48 + n.toNat)] := by
  unfold Lib.itoa
  rw [if_neg (by omega), dec_small (by omega)]
 have hd : (UInt8.ofNat (48 + n.toNat)).toNat = 48 + n.toNat := by rw [UInt8.toNat_ofNat']; omega
 rw [e]
 show (if _ then _ else _) = n
 rw [if_pos (by rw [hd]; omega), hd]; omega
theorem propI_of {w : List UInt8} (h : 0 ≤ propI w) : propI w < 6 ∧ w = 80 :: Lib.itoa (propI w) := by
 unfold propI at h ⊢
 split at h
 · rename_i d
   by_cases c : 48 ≤ d.toNat ∧ d.toNat ≤ 53
   · simp only [if_pos c]
     refine ⟨by omega, ?_⟩
     have e : Lib.itoa ((d.toNat : Int) - 48) = [UInt8.ofNat (48 + (d.toNat - 48))] := by
      unfold Lib.itoa
      rw [if_neg (by omega), show ((d.toNat : Int) - 48).toNat = d.toNat - 48 by omega, dec_small (by omega)]
     rw [e, show 48 + (d.toNat - 48) = d.toNat by omega]
     simp
   · rw [if_neg c] at h; omega
 · omega
noncomputable def opF (vars : List Vr) (w : List UInt8) : Fo :=
 match markK w with
 | some i => ⟨(i + 3 : Nat), 0⟩
 | none => if 0 ≤ varI vars w then ⟨2, varI vars w⟩ else if 0 ≤ propI w then ⟨13, propI w⟩ else if numI w < 5000 then ⟨1, numI w⟩ else ⟨0, 0⟩
theorem varI_neg {vars : List Vr} (hn : ∀ v ∈ vars, nameP v.name) {w : List UInt8} (h : ∀ b l, w = b :: l → ¬ (97 ≤ b.toNat ∧ b.toNat ≤ 122)) : varI vars w = -1 := by
 refine varI_no fun v hv e => ?_
 obtain ⟨b, l, e2, h1, h2⟩ := name_first (hn v hv)
 exact h b l (e ▸ e2) ⟨h1, h2⟩
theorem propI_neg {w : List UInt8} (h : ∀ l, w ≠ 80 :: l) : propI w = -1 := by
 unfold propI
 split
 · exact absurd rfl (h _)
 · rfl
theorem opF_word {vars : List Vr} (hn : ∀ v ∈ vars, nameP v.name) (hd : (vars.map Vr.name).Nodup) {o : Fo} {np : Int} (h : OpP vars.length np o) (hp : np ≤ 6) : opF vars (wordL vars o) = o := by
 obtain ⟨k, v⟩ := o
 unfold wordL
 by_cases c1 : k = 1
 · subst c1
   have hv := h.num rfl
   rw [if_pos rfl]
   unfold opF
   rw [markK_num, varI_neg hn, propI_neg, numI_itoa hv]
   · simp only
     rw [if_neg (by omega), if_neg (by omega), if_pos (by dsimp only at hv; omega)]
   · intro l e
     rcases itoa_first v with ⟨b, l', e', h1, h2⟩ | ⟨b, l', e'⟩
     · dsimp only at e
       rw [e'] at e; obtain ⟨rfl, _⟩ := List.cons.inj e; exact absurd h2 (by decide)
     · dsimp only at e
       rw [e'] at e; exact absurd (List.cons.inj e).1 (by decide)
   · intro b l e ⟨g1, g2⟩
     rcases itoa_first v with ⟨b', l', e', h1, h2⟩ | ⟨b', l', e'⟩
     · dsimp only at e
       rw [e'] at e; obtain ⟨rfl, _⟩ := List.cons.inj e; omega
     · dsimp only at e
       rw [e'] at e; obtain ⟨rfl, _⟩ := List.cons.inj e; exact absurd g1 (by decide)
 rw [if_neg c1]
 by_cases c2 : k = 2
 · subst c2
   have hv := h.var rfl
   try dsimp only at hv
   have hi : v.toNat < vars.length := by omega
   rw [if_pos rfl]
   dsimp only
   rw [List.getElem?_eq_getElem hi]
   simp only [Option.map_some, Option.getD_some]
   unfold opF
   rw [markK_name (hn _ (List.getElem_mem hi)), varI_at hd _ hi]
   simp only
   rw [if_pos (by omega)]
   exact Fo.ext' rfl (by (try dsimp only); omega)
 rw [if_neg c2]
 by_cases c3 : k = 13
 · subst c3
   have hv := h.prop rfl
   try dsimp only at hv
   rw [if_pos rfl]
   unfold opF
   rw [markK_prop, varI_neg hn, propI_at (by (try dsimp only); omega) (by (try dsimp only); omega)]
   · simp only
     rw [if_neg (by omega), if_pos (by (try dsimp only); omega)]
   · intro b l e ⟨g1, g2⟩
     obtain ⟨rfl, _⟩ := List.cons.inj e; exact absurd g1 (by decide)
 rw [if_neg c3]
 have h0 := h.none c1 c2 c3
 have hlo := h.lo
 have hhi := h.hi
 try dsimp only at h0 hlo hhi
 subst h0
 have hk : k = (((k.toNat - 3) + 3 : Nat) : Int) := by omega
 have hm := markK_mark ⟨k.toNat - 3, by omega⟩ (by (try dsimp only); omega)
 try dsimp only at hm
 rw [← hk] at hm
 unfold opF
 rw [hm.1]
 exact Fo.ext' (by (try dsimp only); omega) rfl
theorem word_opF {vars : List Vr} {w : List UInt8} (h : 1 ≤ (opF vars w).kind) : wordL vars (opF vars w) = w := by
 unfold opF at h ⊢
 cases hm : markK w with
 | some i =>
   obtain ⟨h1, h2, h3⟩ := markK_of hm
   simp only
   have h13 : i ≠ 10 := fun e => by
    subst e
    exact h3 h2.symm
   unfold wordL
   dsimp only
   rw [if_neg (by omega), if_neg (by omega), if_neg (by omega)]
   exact h2
 | none =>
   rw [hm] at h
   simp only at h ⊢
   by_cases c1 : 0 ≤ varI vars w
   · rw [if_pos c1]
     obtain ⟨q1, q2⟩ := varI_of c1
     unfold wordL
     rw [if_neg (by dsimp only; decide), if_pos rfl]
     dsimp only
     rw [List.getElem?_eq_getElem q1]
     simp only [Option.map_some, Option.getD_some]
     exact q2
   rw [if_neg c1] at h ⊢
   by_cases c2 : 0 ≤ propI w
   · rw [if_pos c2]
     unfold wordL
     rw [if_neg (by dsimp only; decide), if_neg (by dsimp only; decide), if_pos rfl]
     exact (propI_of c2).2.symm
   rw [if_neg c2] at h ⊢
   by_cases c3 : numI w < 5000
   · rw [if_pos c3]
     unfold wordL
     rw [if_pos rfl]
     exact (numI_of c3).2
   · rw [if_neg c3] at h; exact absurd h (by decide)
abbrev Ln := List (List UInt8)
def varU : List UInt8 := [118, 97, 114]
def setU : List UInt8 := [115, 101, 116]
def varN (vars : List Vr) (i : Int) : List UInt8 := ((vars[i.toNat]?).map fun v => v.name.data.toList).getD []
def varK (v : Vr) : Ln := [varU, v.name.data.toList, Lib.itoa v.low, Lib.itoa v.high, Lib.itoa v.init]
def setK (vars : List Vr) (s : St) : Ln := setU :: varN vars s.var :: s.val.map (wordL vars)
def ruleK (vars : List Vr) (r : Ru) : List Ln := (ruleW :: r.guard.map (wordL vars)) :: r.sets.map (setK vars)
def propK (vars : List Vr) (l : List Fo) : Ln := propW :: l.map (wordL vars)
def checkK (vars : List Vr) (l : List Fo) : Ln := checkW :: l.map (wordL vars)
def shownK (t : Tk) : List Ln := t.model.vars.map varK ++ t.model.rules.flatMap (ruleK t.model.vars) ++ t.props.map (propK t.model.vars) ++ [checkK t.model.vars t.formula]
structure Rs where
 t : Tk
 tm : Nat
def tk0 : Tk := ⟨⟨[], []⟩, [], []⟩
def addSet (rs : List Ru) (s : St) : List Ru := match rs.getLast? with
 | none => []
 | some r => rs.dropLast ++ [⟨r.guard, r.sets ++ [s]⟩]
theorem addSet_snoc (rs : List Ru) (r : Ru) (s : St) : addSet (rs ++ [r]) s = rs ++ [⟨r.guard, r.sets ++ [s]⟩] := by unfold addSet; simp
noncomputable def vrOf : Ln → Vr
 | [a, b, c, d] => ⟨tx a, numI b, numI c, numI d⟩
 | _ => ⟨.empty, 0, 0, 0⟩
noncomputable def lineF (q : Rs) : Ln → Option Rs
 | [] => none
 | w :: r =>
   if q.tm = 3 then none
   else if w = varU ∧ q.tm = 0 ∧ r.length = 4 then some ⟨⟨⟨q.t.model.vars ++ [vrOf r], q.t.model.rules⟩, q.t.props, q.t.formula⟩, 0⟩
   else if w = ruleW ∧ q.tm < 2 then some ⟨⟨⟨q.t.model.vars, q.t.model.rules ++ [⟨r.map (opF q.t.model.vars), []⟩]⟩, q.t.props, q.t.formula⟩, 1⟩
   else if w = setU ∧ q.tm = 1 ∧ 0 < r.length then some ⟨⟨⟨q.t.model.vars, addSet q.t.model.rules ⟨varI q.t.model.vars (r.headD []), r.tail.map (opF q.t.model.vars)⟩⟩, q.t.props, q.t.formula⟩, 1⟩
   else if w = propW then some ⟨⟨q.t.model, q.t.props ++ [r.map (opF q.t.model.vars)], q.t.formula⟩, 2⟩
   else if w = checkW then some ⟨⟨q.t.model, q.t.props, r.map (opF q.t.model.vars)⟩, 3⟩
   else none
inductive LineR (q : Rs) : Ln → Rs → Prop
 | var (h : q.tm = 0) (a b c d : List UInt8) : LineR q [varU, a, b, c, d] ⟨⟨⟨q.t.model.vars ++ [⟨tx a, numI b, numI c, numI d⟩], q.t.model.rules⟩, q.t.props, q.t.formula⟩, 0⟩
 | rule (h : q.tm < 2) (r : Ln) : LineR q (ruleW :: r) ⟨⟨⟨q.t.model.vars, q.t.model.rules ++ [⟨r.map (opF q.t.model.vars), []⟩]⟩, q.t.props, q.t.formula⟩, 1⟩
 | set (h : q.tm = 1) (n : List UInt8) (r : Ln) : LineR q (setU :: n :: r) ⟨⟨⟨q.t.model.vars, addSet q.t.model.rules ⟨varI q.t.model.vars n, r.map (opF q.t.model.vars)⟩⟩, q.t.props, q.t.formula⟩, 1⟩
 | prop (h : q.tm ≠ 3) (r : Ln) : LineR q (propW :: r) ⟨⟨q.t.model, q.t.props ++ [r.map (opF q.t.model.vars)], q.t.formula⟩, 2⟩
 | check (h : q.tm ≠ 3) (r : Ln) : LineR q (checkW :: r) ⟨⟨q.t.model, q.t.props, r.map (opF q.t.model.vars)⟩, 3⟩
theorem lineF_R {q q' : Rs} {l : Ln} (h : lineF q l = some q') : LineR q l q' := by
 cases l with
 | nil => cases h
 | cons w r =>
   rw [lineF] at h
   by_cases c0 : q.tm = 3
   · rw [if_pos c0] at h; cases h
   rw [if_neg c0] at h
   by_cases c1 : w = varU ∧ q.tm = 0 ∧ r.length = 4
   · rw [if_pos c1, Option.some.injEq] at h
     obtain ⟨rfl, h2, h3⟩ := c1
     match r, h3 with
     | [a, b, c, d], _ => exact h ▸ .var h2 a b c d
   rw [if_neg c1] at h
   by_cases c2 : w = ruleW ∧ q.tm < 2
   · rw [if_pos c2, Option.some.injEq] at h
     obtain ⟨rfl, h2⟩ := c2
     exact h ▸ .rule h2 r
   rw [if_neg c2] at h
   by_cases c3 : w = setU ∧ q.tm = 1 ∧ 0 < r.length
   · rw [if_pos c3, Option.some.injEq] at h
     obtain ⟨rfl, h2, h3⟩ := c3
     cases r with
     | nil => cases h3
     | cons n r => exact h ▸ .set h2 n r
   rw [if_neg c3] at h
   by_cases c4 : w = propW
   · rw [if_pos c4, Option.some.injEq] at h
     subst c4
     exact h ▸ .prop c0 r
   rw [if_neg c4] at h
   by_cases c5 : w = checkW
   · rw [if_pos c5, Option.some.injEq] at h
     subst c5
     exact h ▸ .check c0 r
   rw [if_neg c5] at h; cases h
theorem lineR_F {q q' : Rs} {l : Ln} (h : LineR q l q') : lineF q l = some q' := by
 cases h with
 | var h a b c d => rw [lineF, if_neg (by omega), if_pos ⟨rfl, h, rfl⟩]; rfl
 | rule h r => rw [lineF, if_neg (by omega), if_neg (fun k => absurd k.1 (by decide)), if_pos ⟨rfl, h⟩]
 | set h n r => rw [lineF, if_neg (by omega), if_neg (fun k => absurd k.1 (by decide)), if_neg (fun k => absurd k.1 (by decide)), if_pos ⟨rfl, h, by simp⟩]; rfl
 | prop h r => rw [lineF, if_neg h, if_neg (fun k => absurd k.1 (by decide)), if_neg (fun k => absurd k.1 (by decide)), if_neg (fun k => absurd k.1 (by decide)), if_pos rfl]
 | check h r => rw [lineF, if_neg h, if_neg (fun k => absurd k.1 (by decide)), if_neg (fun k => absurd k.1 (by decide)), if_neg (fun k => absurd k.1 (by decide)), if_neg (by decide), if_pos rfl]
noncomputable def readL (q : Rs) : List Ln → Option Rs
 | [] => some q
 | l :: ls => (lineF q l).bind fun q' => readL q' ls
theorem readL_app (q : Rs) (a b : List Ln) : readL q (a ++ b) = (readL q a).bind fun q' => readL q' b := by
 induction a generalizing q with
 | nil => rfl
 | cons l a ih =>
   rw [List.cons_append, readL, readL]
   cases lineF q l with
   | none => rfl
   | some q1 => exact ih q1
theorem readL_snoc (q : Rs) (a : List Ln) (l : Ln) : readL q (a ++ [l]) = (readL q a).bind fun q' => lineF q' l := by
 rw [readL_app]
 congr 1
 funext q'
 rw [readL]
 cases lineF q' l <;> rfl
theorem readL_one {q q' : Rs} {l : Ln} (h : LineR q l q') (ls : List Ln) : readL q (l :: ls) = readL q' ls := by
 rw [readL, lineR_F h]; rfl
theorem tm_words {vars : List Vr} (hn : ∀ v ∈ vars, nameP v.name) (hd : (vars.map Vr.name).Nodup) {np : Int} (hp : np ≤ 6) : ∀ l : List Fo, (∀ o ∈ l, OpP vars.length np o) → (l.map (wordL vars)).map (opF vars) = l := by
 intro l h
 rw [List.map_map]
 conv => rhs; rw [← List.map_id l]
 refine List.map_congr_left fun o ho => ?_
 exact opF_word hn hd (h o ho) hp
theorem read_vars : ∀ (l vs : List Vr), (∀ v ∈ l, -1000 ≤ v.low ∧ v.low ≤ 1000 ∧ -1000 ≤ v.high ∧ v.high ≤ 1000 ∧ -1000 ≤ v.init ∧ v.init ≤ 1000) → readL ⟨⟨⟨vs, []⟩, [], []⟩, 0⟩ (l.map varK) = some ⟨⟨⟨vs ++ l, []⟩, [], []⟩, 0⟩
 | [], vs, _ => by rw [List.append_nil]; rfl
 | v :: l, vs, h => by
   obtain ⟨h1, h2, h3, h4, h5, h6⟩ := h v List.mem_cons_self
   have e : (⟨tx v.name.data.toList, numI (Lib.itoa v.low), numI (Lib.itoa v.high), numI (Lib.itoa v.init)⟩ : Vr) = v := by
    rw [tx_list, numI_itoa ⟨h1, h2⟩, numI_itoa ⟨h3, h4⟩, numI_itoa ⟨h5, h6⟩]
   have k := LineR.var (q := ⟨⟨⟨vs, []⟩, [], []⟩, 0⟩) rfl v.name.data.toList (Lib.itoa v.low) (Lib.itoa v.high) (Lib.itoa v.init)
   rw [e] at k
   rw [List.map_cons]
   refine (readL_one k _).trans ?_
   refine (read_vars l (vs ++ [v]) fun x hx => h x (List.mem_cons_of_mem _ hx)).trans ?_
   rw [List.append_assoc]; rfl
section
variable {vs : List Vr} (hn : ∀ v ∈ vs, nameP v.name) (hd : (vs.map Vr.name).Nodup)
include hn hd
theorem read_sets (rs : List Ru) (g : List Fo) : ∀ (l ss : List St), (∀ s ∈ l, 0 ≤ s.var ∧ s.var < vs.length ∧ ∀ o ∈ s.val, OpP vs.length 0 o) → readL ⟨⟨⟨vs, rs ++ [⟨g, ss⟩]⟩, [], []⟩, 1⟩ (l.map (setK vs)) = some ⟨⟨⟨vs, rs ++ [⟨g, ss ++ l⟩]⟩, [], []⟩, 1⟩
 | [], ss, _ => by rw [List.append_nil]; rfl
 | s :: l, ss, h => by
   obtain ⟨h1, h2, h3⟩ := h s List.mem_cons_self
   have hi : s.var.toNat < vs.length := by omega
   have ev : varI vs (varN vs s.var) = s.var := by
    unfold varN
    rw [List.getElem?_eq_getElem hi]
    simp only [Option.map_some, Option.getD_some]
    rw [varI_at hd _ hi]; omega
   have k := LineR.set (q := ⟨⟨⟨vs, rs ++ [⟨g, ss⟩]⟩, [], []⟩, 1⟩) rfl (varN vs s.var) (s.val.map (wordL vs))
   dsimp only at k
   rw [ev, tm_words hn hd (by omega) s.val h3, addSet_snoc] at k
   rw [List.map_cons]
   refine (readL_one k _).trans ?_
   refine (read_sets rs g l (ss ++ [s]) fun x hx => h x (List.mem_cons_of_mem _ hx)).trans ?_
   rw [List.append_assoc]; rfl
theorem read_rules : ∀ (l rs : List Ru) (tm : Nat), tm < 2 → (∀ r ∈ l, (∀ o ∈ r.guard, OpP vs.length 0 o) ∧ ∀ s ∈ r.sets, 0 ≤ s.var ∧ s.var < vs.length ∧ ∀ o ∈ s.val, OpP vs.length 0 o) → ∃ tm', tm' < 2 ∧ readL ⟨⟨⟨vs, rs⟩, [], []⟩, tm⟩ (l.flatMap (ruleK vs)) = some ⟨⟨⟨vs, rs ++ l⟩, [], []⟩, tm'⟩
 | [], rs, tm, ht, _ => ⟨tm, ht, by rw [List.append_nil]; rfl⟩
 | r :: l, rs, tm, ht, h => by
   obtain ⟨h1, h2⟩ := h r List.mem_cons_self
   obtain ⟨tm', ht', ih⟩ := read_rules l (rs ++ [r]) 1 (by decide) fun x hx => h x (List.mem_cons_of_mem _ hx)
   refine ⟨tm', ht', ?_⟩
   have k := LineR.rule (q := ⟨⟨⟨vs, rs⟩, [], []⟩, tm⟩) ht (r.guard.map (wordL vs))
   dsimp only at k
   rw [tm_words hn hd (by omega) r.guard h1] at k
   rw [List.flatMap_cons]
   unfold ruleK
   rw [List.cons_append]
   refine (readL_one k _).trans ?_
   rw [readL_app, read_sets hn hd rs r.guard r.sets [] h2]
   refine ih.trans ?_
   rw [List.append_assoc]; rfl
theorem read_props (rs : List Ru) : ∀ (l ps : List (List Fo)) (tm : Nat), tm < 3 → (∀ p ∈ l, ∀ o ∈ p, OpP vs.length 0 o) → ∃ tm', tm' < 3 ∧ readL ⟨⟨⟨vs, rs⟩, ps, []⟩, tm⟩ (l.map (propK vs)) = some ⟨⟨⟨vs, rs⟩, ps ++ l, []⟩, tm'⟩
 | [], ps, tm, ht, _ => ⟨tm, ht, by rw [List.append_nil]; rfl⟩
 | p :: l, ps, tm, ht, h => by
   obtain ⟨tm', ht', ih⟩ := read_props rs l (ps ++ [p]) 2 (by decide) fun x hx => h x (List.mem_cons_of_mem _ hx)
   refine ⟨tm', ht', ?_⟩
   have k := LineR.prop (q := ⟨⟨⟨vs, rs⟩, ps, []⟩, tm⟩) (by dsimp only; omega) (p.map (wordL vs))
   dsimp only at k
   rw [tm_words hn hd (by omega) p (h p List.mem_cons_self)] at k
   rw [List.map_cons]
   refine (readL_one k _).trans ?_
   refine ih.trans ?_
   rw [List.append_assoc]; rfl
end
theorem read_shown {t : Tk} (h : TkP t) : readL ⟨tk0, 0⟩ (shownK t) = some ⟨t, 3⟩ := by
 obtain ⟨⟨vs, rs⟩, ps, fm⟩ := t
 have np : (ps.length : Int) ≤ 6 := by have := h.props6; dsimp only at this; omega
 unfold shownK
 dsimp only
 rw [readL_app, readL_app, readL_app]
 have e1 := read_vars vs [] h.range
 rw [List.nil_append] at e1
 rw [show tk0 = ⟨⟨[], []⟩, [], []⟩ from rfl, e1]
 obtain ⟨t1, k1, e2⟩ := read_rules h.names h.nodup rs [] 0 (by decide) fun r hr => ⟨(h.guards r hr).ops, fun s hs => ⟨(h.sets r hr s hs).1, (h.sets r hr s hs).2.1, (h.sets r hr s hs).2.2.ops⟩⟩
 rw [List.nil_append] at e2
 dsimp only [Option.bind_some]
 dsimp only at e2
 rw [e2]
 dsimp only [Option.bind_some]
 obtain ⟨t2, k2, e3⟩ := read_props h.names h.nodup rs ps [] t1 (by omega) fun p hp => (h.props p hp).ops
 rw [List.nil_append] at e3
 dsimp only at e3
 rw [e3]
 dsimp only [Option.bind_some]
 have k := LineR.check (q := ⟨⟨⟨vs, rs⟩, ps, []⟩, t2⟩) (by dsimp only; omega) (fm.map (wordL vs))
 dsimp only at k
 rw [tm_words h.names h.nodup np fm h.form.ops] at k
 exact readL_one k []
structure Gd (t : Tk) : Prop where
 vars : ∀ v ∈ t.model.vars, v.low < 5000 ∧ v.high < 5000 ∧ v.init < 5000
 guards : ∀ r ∈ t.model.rules, ∀ o ∈ r.guard, 1 ≤ o.kind
 sets : ∀ r ∈ t.model.rules, ∀ s ∈ r.sets, 0 ≤ s.var ∧ ∀ o ∈ s.val, 1 ≤ o.kind
 props : ∀ p ∈ t.props, ∀ o ∈ p, 1 ≤ o.kind
 form : ∀ o ∈ t.formula, 1 ≤ o.kind
theorem TkP.gd {t : Tk} (h : TkP t) : Gd t :=
 ⟨fun v hv => by have := h.range v hv; omega, fun r hr o ho => ((h.guards r hr).ops o ho).lo, fun r hr s hs => ⟨(h.sets r hr s hs).1, fun o ho => ((h.sets r hr s hs).2.2.ops o ho).lo⟩,
  fun p hp o ho => ((h.props p hp).ops o ho).lo, fun o ho => (h.form.ops o ho).lo⟩
structure RsI (q : Rs) : Prop where
 t0 : q.tm = 0 → q.t.model.rules = []
 t1 : q.tm < 2 → q.t.props = []
 t2 : q.tm = 1 → q.t.model.rules ≠ []
 t3 : q.tm ≠ 3 → q.t.formula = []
theorem RsI.start : RsI ⟨tk0, 0⟩ := ⟨fun _ => rfl, fun _ => rfl, fun h => absurd h (by decide), fun _ => rfl⟩
theorem LineR.inv {q q' : Rs} {l : Ln} (h : RsI q) (k : LineR q l q') : RsI q' := by
 cases k with
 | var c => exact ⟨fun _ => h.t0 c, fun _ => h.t1 (by omega), fun k => by dsimp only at k; omega, fun _ => h.t3 (by omega)⟩
 | rule c => exact ⟨fun k => by dsimp only at k; omega, fun _ => h.t1 c, fun _ => by simp, fun _ => h.t3 (by omega)⟩
 | set c =>
   refine ⟨fun k => by dsimp only at k; omega, fun _ => h.t1 (by omega), fun _ => ?_, fun _ => h.t3 (by omega)⟩
   rcases List.eq_nil_or_concat q.t.model.rules with e | ⟨rs, r, e⟩
   · exact absurd e (h.t2 c)
   · rw [List.concat_eq_append] at e
     dsimp only
     rw [e, addSet_snoc]; simp
 | prop c => exact ⟨fun k => by dsimp only at k; omega, fun k => by dsimp only at k; omega, fun k => by dsimp only at k; omega, fun _ => h.t3 c⟩
 | check c => exact ⟨fun k => by dsimp only at k; omega, fun k => by dsimp only at k; omega, fun k => by dsimp only at k; omega, fun k => absurd rfl k⟩
theorem LineR.gd {q q' : Rs} {l : Ln} (h : RsI q) (k : LineR q l q') (g : Gd q'.t) : Gd q.t := by
 cases k with
 | var c => exact ⟨fun v hv => g.vars v (List.mem_append_left _ hv), g.guards, g.sets, g.props, g.form⟩
 | rule c => exact ⟨g.vars, fun v hv => g.guards v (List.mem_append_left _ hv), fun v hv => g.sets v (List.mem_append_left _ hv), g.props, g.form⟩
 | set c =>
   rcases List.eq_nil_or_concat q.t.model.rules with e | ⟨rs, r, e⟩
   · exact absurd e (h.t2 c)
   · rw [List.concat_eq_append] at e
     have g2 := g.guards
     have g3 := g.sets
     dsimp only at g2 g3
     rw [e, addSet_snoc] at g2 g3
     refine ⟨g.vars, ?_, ?_, g.props, g.form⟩
     · intro x hx
       rw [e] at hx
       rcases List.mem_append.1 hx with hx | hx
       · exact g2 x (List.mem_append_left _ hx)
       · rw [List.mem_singleton] at hx; subst hx
         have := g2 _ (List.mem_append_right _ (List.mem_singleton.2 rfl))
         exact this
     · intro x hx
       rw [e] at hx
       rcases List.mem_append.1 hx with hx | hx
       · exact g3 x (List.mem_append_left _ hx)
       · rw [List.mem_singleton] at hx; subst hx
         have := g3 _ (List.mem_append_right _ (List.mem_singleton.2 rfl))
         exact fun s hs => this s (List.mem_append_left _ hs)
 | prop c => exact ⟨g.vars, g.guards, g.sets, fun p hp => g.props p (List.mem_append_left _ hp), g.form⟩
 | check c => exact ⟨g.vars, g.guards, g.sets, g.props, by rw [h.t3 c]; intro o ho; cases ho⟩
def soFar (q : Rs) : List Ln := q.t.model.vars.map varK ++ q.t.model.rules.flatMap (ruleK q.t.model.vars) ++ q.t.props.map (propK q.t.model.vars) ++ if q.tm = 3 then [checkK q.t.model.vars q.t.formula] else []
theorem words_tm (vars : List Vr) : ∀ r : Ln, (∀ o ∈ r.map (opF vars), 1 ≤ o.kind) → (r.map (opF vars)).map (wordL vars) = r := by
 intro r h
 rw [List.map_map]
 conv => rhs; rw [← List.map_id r]
 refine List.map_congr_left fun w hw => ?_
 exact word_opF (h _ (List.mem_map_of_mem hw))
theorem varN_I {vars : List Vr} {n : List UInt8} (h : 0 ≤ varI vars n) : varN vars (varI vars n) = n := by
 obtain ⟨q1, q2⟩ := varI_of h
 unfold varN
 rw [List.getElem?_eq_getElem q1]
 exact q2
theorem LineR.so {q q' : Rs} {l : Ln} (h : RsI q) (k : LineR q l q') (g : Gd q'.t) : soFar q' = soFar q ++ [l] := by
 unfold soFar
 cases k with
 | var c a b d e =>
   have g1 := g.vars _ (List.mem_append_right _ List.mem_cons_self)
   dsimp only at g1 ⊢
   rw [h.t0 c, h.t1 (by omega), if_neg (by decide), if_neg (by omega), List.map_append]
   simp only [List.flatMap_nil, List.map_nil, List.append_nil, List.map_cons]
   congr 2
   unfold varK
   dsimp only
   rw [(numI_of g1.1).2, (numI_of g1.2.1).2, (numI_of g1.2.2).2]
 | rule c r =>
   have g1 := g.guards _ (List.mem_append_right _ List.mem_cons_self)
   dsimp only at g1 ⊢
   rw [h.t1 c, if_neg (by decide), if_neg (by omega), List.flatMap_append]
   simp only [List.map_nil, List.append_nil, List.flatMap_cons, List.flatMap_nil, List.append_assoc]
   congr 2
   unfold ruleK
   dsimp only
   rw [words_tm _ r g1]; rfl
 | set c n r =>
   rcases List.eq_nil_or_concat q.t.model.rules with e | ⟨rs, x, e⟩
   · exact absurd e (h.t2 c)
   rw [List.concat_eq_append] at e
   have g1 := g.sets
   dsimp only at g1 ⊢
   rw [e, addSet_snoc] at g1
   have g2 := g1 _ (List.mem_append_right _ List.mem_cons_self) _ (List.mem_append_right _ List.mem_cons_self)
   dsimp only at g2
   rw [h.t1 (by omega), if_neg (by decide), if_neg (by omega), e, addSet_snoc, List.flatMap_append, List.flatMap_append]
   simp only [List.map_nil, List.append_nil, List.flatMap_cons, List.flatMap_nil, List.append_assoc]
   congr 2
   unfold ruleK
   dsimp only
   rw [List.map_append]
   simp only [List.map_cons, List.map_nil, List.cons_append]
   congr 3
   unfold setK
   dsimp only
   rw [varN_I g2.1, words_tm _ r g2.2]
 | prop c r =>
   have g1 := g.props _ (List.mem_append_right _ List.mem_cons_self)
   dsimp only at g1 ⊢
   rw [if_neg (by decide), if_neg c, List.map_append]
   simp only [List.append_nil, List.append_assoc, List.map_cons, List.map_nil]
   congr 3
   unfold propK
   rw [words_tm _ r g1]
 | check c r =>
   have g1 := g.form
   dsimp only at g1 ⊢
   rw [if_pos rfl, if_neg c]
   simp only [List.append_nil]
   congr 2
   unfold checkK
   rw [words_tm _ r g1]
theorem readL_so : ∀ (ls : List Ln) {q q' : Rs}, readL q ls = some q' → RsI q → Gd q'.t → Gd q.t ∧ soFar q' = soFar q ++ ls
 | [], q, q', h, hI, g => by
   rw [readL, Option.some.injEq] at h
   subst h
   exact ⟨g, by rw [List.append_nil]⟩
 | l :: ls, q, q', h, hI, g => by
   rw [readL] at h
   cases e : lineF q l with
   | none => rw [e] at h; cases h
   | some q1 =>
     rw [e] at h
     have k := lineF_R e
     obtain ⟨g1, s1⟩ := readL_so ls h (k.inv hI) g
     refine ⟨k.gd hI g1, ?_⟩
     rw [s1, k.so hI g1, List.append_assoc]; rfl
theorem shown_read {ls : List Ln} {t : Tk} (h : readL ⟨tk0, 0⟩ ls = some ⟨t, 3⟩) (g : TkP t) : shownK t = ls := by
 have := (readL_so ls h RsI.start g.gd).2
 unfold soFar at this
 rw [if_pos rfl] at this
 exact this.trans (List.nil_append _)
def NumR (a : List UInt8 → Int) : Prop := ∀ n : Int, -1000 ≤ n → n ≤ 1000 → a (Lib.itoa n) = n
def padOp (a : List UInt8 → Int) (vars : List Vr) (w : List UInt8) : Fo :=
 match markK w with
 | some i => ⟨(i + 3 : Nat), 0⟩
 | none => if 0 ≤ varI vars w then ⟨2, varI vars w⟩ else match w with
   | 80 :: r => ⟨13, a r⟩
   | w => ⟨1, a w⟩
def padVar (a : List UInt8 → Int) (r : Ln) : Vr := ⟨tx ((r[0]?).getD []), ((r[1]?).map a).getD 0, ((r[2]?).map a).getD 0, ((r[3]?).map a).getD 0⟩
def padLine (a : List UInt8 → Int) (t : Tk) : Ln → Tk
 | [] => t
 | w :: r =>
   if w = varU then ⟨⟨t.model.vars ++ [padVar a r], t.model.rules⟩, t.props, t.formula⟩
   else if w = ruleW then ⟨⟨t.model.vars, t.model.rules ++ [⟨r.map (padOp a t.model.vars), []⟩]⟩, t.props, t.formula⟩
   else if w = setU then (if 0 < r.length ∧ 0 < t.model.rules.length then ⟨⟨t.model.vars, addSet t.model.rules ⟨varI t.model.vars (r.headD []), r.tail.map (padOp a t.model.vars)⟩⟩, t.props, t.formula⟩ else t)
   else if w = propW then ⟨t.model, t.props ++ [r.map (padOp a t.model.vars)], t.formula⟩
   else if w = checkW then ⟨t.model, t.props, r.map (padOp a t.model.vars)⟩
   else t
theorem pad_op {a : List UInt8 → Int} (ha : NumR a) {vars : List Vr} {w : List UInt8} (h : 1 ≤ (opF vars w).kind) : padOp a vars w = opF vars w := by
 unfold opF at h ⊢
 unfold padOp
 cases hm : markK w with
 | some i => rfl
 | none =>
   rw [hm] at h
   simp only at h ⊢
   by_cases c1 : 0 ≤ varI vars w
   · rw [if_pos c1, if_pos c1]
   rw [if_neg c1] at h ⊢
   rw [if_neg c1]
   by_cases c2 : 0 ≤ propI w
   · rw [if_pos c2]
     obtain ⟨q1, q2⟩ := propI_of c2
     rw [q2]
     show (⟨13, a (Lib.itoa (propI w))⟩ : Fo) = ⟨13, propI (80 :: Lib.itoa (propI w))⟩
     rw [ha _ (by omega) (by omega), ← q2]
   rw [if_neg c2] at h ⊢
   by_cases c3 : numI w < 5000
   · rw [if_pos c3]
     obtain ⟨q1, q2⟩ := numI_of c3
     split
     · rename_i r
       exfalso
       rcases itoa_first (numI (80 :: r)) with ⟨b, l', e', h1, h2⟩ | ⟨b, l', e'⟩
       · rw [e'] at q2; obtain ⟨rfl, _⟩ := List.cons.inj q2; exact absurd h2 (by decide)
       · rw [e'] at q2; exact absurd (List.cons.inj q2).1 (by decide)
     · have e := ha (numI w) q1.1 q1.2
       rw [q2] at e
       rw [e]
   · rw [if_neg c3] at h; exact absurd h (by decide)
theorem pad_ops {a : List UInt8 → Int} (ha : NumR a) {vars : List Vr} {r : Ln} (h : ∀ o ∈ r.map (opF vars), 1 ≤ o.kind) : r.map (padOp a vars) = r.map (opF vars) :=
 List.map_congr_left fun _ hw => pad_op ha (h _ (List.mem_map_of_mem hw))
theorem pad_num {a : List UInt8 → Int} (ha : NumR a) {w : List UInt8} (h : numI w < 5000) : a w = numI w := by
 obtain ⟨q1, q2⟩ := numI_of h
 have e := ha (numI w) q1.1 q1.2
 rw [q2] at e
 exact e
theorem LineR.pad {a : List UInt8 → Int} (ha : NumR a) {q q' : Rs} {l : Ln} (h : RsI q) (k : LineR q l q') (g : Gd q'.t) : padLine a q.t l = q'.t := by
 cases k with
 | var c x b d e =>
   have g1 := g.vars _ (List.mem_append_right _ List.mem_cons_self)
   dsimp only at g1 ⊢
   rw [padLine, if_pos rfl]
   have e : padVar a [x, b, d, e] = ⟨tx x, numI b, numI d, numI e⟩ := by
    show (⟨tx x, a b, a d, a e⟩ : Vr) = _
    rw [pad_num ha g1.1, pad_num ha g1.2.1, pad_num ha g1.2.2]
   rw [e]
 | rule c r =>
   have g1 := g.guards _ (List.mem_append_right _ List.mem_cons_self)
   dsimp only at g1 ⊢
   rw [padLine, if_neg (by decide), if_pos rfl, pad_ops ha g1]
 | set c n r =>
   rcases List.eq_nil_or_concat q.t.model.rules with e | ⟨rs, x, e⟩
   · exact absurd e (h.t2 c)
   rw [List.concat_eq_append] at e
   have g1 := g.sets
   dsimp only at g1 ⊢
   rw [e, addSet_snoc] at g1
   have g2 := g1 _ (List.mem_append_right _ List.mem_cons_self) _ (List.mem_append_right _ List.mem_cons_self)
   dsimp only at g2
   rw [padLine, if_neg (by decide), if_neg (by decide), if_pos rfl, if_pos ⟨by simp, by rw [e]; simp⟩, List.tail_cons, pad_ops ha g2.2]
   rfl
 | prop c r =>
   have g1 := g.props _ (List.mem_append_right _ List.mem_cons_self)
   dsimp only at g1 ⊢
   rw [padLine, if_neg (by decide), if_neg (by decide), if_neg (by decide), if_pos rfl, pad_ops ha g1]
 | check c r =>
   have g1 := g.form
   dsimp only at g1 ⊢
   rw [padLine, if_neg (by decide), if_neg (by decide), if_neg (by decide), if_neg (by decide), if_pos rfl, pad_ops ha g1]
theorem readL_pad {a : List UInt8 → Int} (ha : NumR a) : ∀ (ls : List Ln) {q q' : Rs}, readL q ls = some q' → RsI q → Gd q'.t → ls.foldl (padLine a) q.t = q'.t
 | [], q, q', h, hI, g => by
   rw [readL, Option.some.injEq] at h
   subst h
   rfl
 | l :: ls, q, q', h, hI, g => by
   rw [readL] at h
   cases e : lineF q l with
   | none => rw [e] at h; cases h
   | some q1 =>
     rw [e] at h
     have k := lineF_R e
     have g1 := (readL_so ls h (k.inv hI) g).1
     rw [List.foldl_cons, k.pad ha hI g1]
     exact readL_pad ha ls h (k.inv hI) g
theorem pad_shown {a : List UInt8 → Int} (ha : NumR a) {t : Tk} (h : TkP t) : (shownK t).foldl (padLine a) tk0 = t :=
 readL_pad ha (shownK t) (read_shown h) RsI.start h.gd
theorem flat_spl (c : UInt8) : ∀ (K : List (List UInt8)), (∀ l ∈ K, c ∉ l) → spl c (K.flatMap fun l => l ++ [c]) = K ++ [[]]
 | [], _ => rfl
 | l :: K, h => by
   rw [List.flatMap_cons, List.append_assoc, List.singleton_append, spl_app c l _ (h l List.mem_cons_self), flat_spl c K fun x hx => h x (List.mem_cons_of_mem _ hx)]; rfl
theorem jn_flat (c : UInt8) : ∀ (K : List (List UInt8)), jn c (K ++ [[]]) = K.flatMap fun l => l ++ [c]
 | [] => rfl
 | l :: K => by
   rw [List.cons_append, jn_cons c l (by simp), jn_flat c K, List.flatMap_cons]; simp
theorem jn_no {c d : UInt8} (hd : d ≠ c) : ∀ (l : Ln), (∀ w ∈ l, d ∉ w) → d ∉ jn c l
 | [], _ => by simp [jn]
 | [w], h => h w List.mem_cons_self
 | w :: v :: l, h => by
   rw [jn]
   intro k
   rcases List.mem_append.1 k with k | k
   · exact h w List.mem_cons_self k
   · rcases List.mem_cons.1 k with k | k
     · exact hd k
     · exact jn_no hd (v :: l) (fun x hx => h x (List.mem_cons_of_mem _ hx)) k
abbrev endL (l : Ln) : List UInt8 := jn 32 l ++ [10]
theorem endL_var (v : Vr) : varL v = endL (varK v) := by
 unfold varL endL varK
 simp [jn, varW, varU]
theorem endL_set (vars : List Vr) (s : St) : setL vars s = endL (setK vars s) := by
 unfold setL endL setK varN
 rw [jn_cons _ _ (by simp), jn_term]
 simp [setW, setU]
theorem endL_rule (vars : List Vr) (r : Ru) : ruleL vars r = (ruleK vars r).flatMap endL := by
 unfold ruleL ruleK endL
 rw [List.flatMap_cons, jn_term, List.flatMap_map]
 congr 1
 congr 1
 funext s
 exact endL_set vars s
theorem endL_prop (vars : List Vr) (l : List Fo) : propL vars l = endL (propK vars l) := by
 unfold propL endL propK
 rw [jn_term]
theorem endL_check (vars : List Vr) (l : List Fo) : checkL vars l = endL (checkK vars l) := by
 unfold checkL endL checkK
 rw [jn_term]
theorem shownL_K (t : Tk) : shownL t = (shownK t).flatMap endL := by
 unfold shownL shownK
 rw [List.flatMap_append, List.flatMap_append, List.flatMap_append, List.flatMap_map, List.flatMap_map, List.flatMap_assoc]
 congr 1
 · congr 1
   · congr 1
     · congr 1; funext v; exact endL_var v
     · congr 1; funext r; exact endL_rule _ r
   · congr 1; funext p; exact endL_prop _ p
 · rw [endL_check]; simp
def WdT (w : List UInt8) : Prop := (32 : UInt8) ∉ w ∧ (10 : UInt8) ∉ w
theorem WdT.of {w : List UInt8} (h : ∀ b ∈ w, b.toNat ≠ 32 ∧ b.toNat ≠ 10) : WdT w := ⟨fun k => (h _ k).1 rfl, fun k => (h _ k).2 rfl⟩
theorem wd_itoa (n : Int) : WdT (Lib.itoa n) := WdT.of fun b hb => by have := itoa_bytes n b hb; omega
theorem wd_name {s : ByteArray} (h : nameP s) : WdT s.data.toList := WdT.of fun b hb => by have := name_bytes h b hb; omega
theorem wd_varN {vars : List Vr} (hn : ∀ v ∈ vars, nameP v.name) (i : Int) : WdT (varN vars i) := by
 unfold varN
 by_cases h : i.toNat < vars.length
 · rw [List.getElem?_eq_getElem h]; exact wd_name (hn _ (List.getElem_mem h))
 · rw [List.getElem?_eq_none (by omega)]; exact ⟨by simp, by simp⟩
theorem wd_words {vars : List Vr} (hn : ∀ v ∈ vars, nameP v.name) {np : Int} {l : List Fo} (h : ∀ o ∈ l, OpP vars.length np o) : ∀ w ∈ l.map (wordL vars), WdT w := by
 intro w hw
 obtain ⟨o, ho, rfl⟩ := List.mem_map.1 hw
 exact WdT.of (word_bytes hn (h o ho))
theorem shownK_words {t : Tk} (h : TkP t) : ∀ l ∈ shownK t, l ≠ [] ∧ ∀ w ∈ l, WdT w := by
 intro l hl
 unfold shownK at hl
 have hd : ∀ {w : List UInt8} {ws : Ln}, WdT w → (∀ x ∈ ws, WdT x) → ∀ x ∈ w :: ws, WdT x := fun h1 h2 x hx => by
  rcases List.mem_cons.1 hx with rfl | hx
  · exact h1
  · exact h2 x hx
 rcases List.mem_append.1 hl with hl | hl
 · rcases List.mem_append.1 hl with hl | hl
   · rcases List.mem_append.1 hl with hl | hl
     · obtain ⟨v, hv, rfl⟩ := List.mem_map.1 hl
       refine ⟨by simp [varK], hd (by unfold WdT; decide) (hd (wd_name (h.names v hv)) (hd (wd_itoa _) (hd (wd_itoa _) (hd (wd_itoa _) (by simp)))))⟩
     · obtain ⟨r, hr, hl⟩ := List.mem_flatMap.1 hl
       rcases List.mem_cons.1 hl with rfl | hl
       · exact ⟨by simp, hd (by unfold WdT; decide) (wd_words h.names (h.guards r hr).ops)⟩
       · obtain ⟨s, hs, rfl⟩ := List.mem_map.1 hl
         exact ⟨by simp [setK], hd (by unfold WdT; decide) (hd (wd_varN h.names _) (wd_words h.names (h.sets r hr s hs).2.2.ops))⟩
   · obtain ⟨p, hp, rfl⟩ := List.mem_map.1 hl
     exact ⟨by simp [propK], hd (by unfold WdT; decide) (wd_words h.names (h.props p hp).ops)⟩
 · rw [List.mem_singleton] at hl
   subst hl
   exact ⟨by simp [checkK], hd (by unfold WdT; decide) (wd_words h.names h.form.ops)⟩
theorem lines_shown {t : Tk} (h : TkP t) : spl 10 (shownL t) = (shownK t).map (jn 32) ++ [[]] := by
 have e : shownL t = ((shownK t).map (jn 32)).flatMap fun l => l ++ [10] := by rw [shownL_K, List.flatMap_map]
 rw [e, flat_spl]
 intro l hl
 obtain ⟨k, hk, rfl⟩ := List.mem_map.1 hl
 exact jn_no (by decide) k fun w hw => ((shownK_words h k hk).2 w hw).2
theorem words_shown {t : Tk} (h : TkP t) : ((shownK t).map (jn 32)).map (spl 32) = shownK t := by
 rw [List.map_map]
 conv => rhs; rw [← List.map_id (shownK t)]
 refine List.map_congr_left fun l hl => ?_
 obtain ⟨h1, h2⟩ := shownK_words h l hl
 exact spl_jn 32 l h1 fun w hw => (h2 w hw).1
theorem shown_back {t : Tk} {s : List UInt8} {L : List (List UInt8)} (h : spl 10 s = L ++ [[]]) (hL : L.map (spl 32) = shownK t) : s = shownL t := by
 have e : (shownK t).map (jn 32) = L := by
  rw [← hL, List.map_map]
  conv => rhs; rw [← List.map_id L]
  exact List.map_congr_left fun l _ => jn_spl 32 l
 rw [← jn_spl 10 s, h, jn_flat, ← e, List.flatMap_map, ← shownL_K]
noncomputable def readF (size bad : Int) (s : ByteArray) : Tk × Int :=
 if 10000 < s.size then (tk0, size) else
 match readL ⟨tk0, 0⟩ ((spl 10 s.data.toList).dropLast.map (spl 32)) with
 | some q => if q.tm = 3 ∧ (spl 10 s.data.toList).getLast? = some [] ∧ taskF q.t = 0 then (q.t, 0) else (tk0, bad)
 | none => (tk0, bad)
def linesP (s : List UInt8) : List (List UInt8) := if (spl 10 s).getLast? = some [] then (spl 10 s).dropLast else spl 10 s
def padF (a : List UInt8 → Int) (s : List UInt8) : Tk := ((linesP s).map (spl 32)).foldl (padLine a) tk0
open Classical in
noncomputable def progF (a : List UInt8 → Int) (size bad : Int) (s : ByteArray) : Tk × Int :=
 if 10000 < s.size then (tk0, size) else
 if (shownF (padF a s.data.toList)).2 = 0 ∧ (shownF (padF a s.data.toList)).1 = s then (padF a s.data.toList, 0) else (tk0, bad)
theorem pad_text {a : List UInt8 → Int} (ha : NumR a) {t : Tk} (h : TkP t) : padF a (shownL t) = t := by
 unfold padF linesP
 rw [lines_shown h, if_pos (by simp), List.dropLast_concat, words_shown h]
 exact pad_shown ha h
theorem prog_read {a : List UInt8 → Int} (ha : NumR a) (size bad : Int) (s : ByteArray) : progF a size bad s = readF size bad s := by
 unfold progF readF
 by_cases c : 10000 < s.size
 · rw [if_pos c, if_pos c]
 rw [if_neg c, if_neg c]
 -- what the reference accepts was shown
 have key : ∀ q : Rs, readL ⟨tk0, 0⟩ ((spl 10 s.data.toList).dropLast.map (spl 32)) = some q → q.tm = 3 → (spl 10 s.data.toList).getLast? = some [] → taskF q.t = 0 → s.data.toList = shownL q.t := by
  intro q e h1 h2 h3
  obtain ⟨t, tm⟩ := q
  dsimp only at h1 h3 ⊢
  subst h1
  have g := TkP.of h3
  have e2 := shown_read e g
  have e3 : spl 10 s.data.toList = (spl 10 s.data.toList).dropLast ++ [[]] := by
   obtain ⟨ys, hy⟩ := List.getLast?_eq_some_iff.1 h2
   rw [hy, List.dropLast_concat]
  exact shown_back e3 e2.symm
 by_cases ok : (shownF (padF a s.data.toList)).2 = 0 ∧ (shownF (padF a s.data.toList)).1 = s
 · rw [if_pos ok]
   obtain ⟨o1, o2⟩ := ok
   have ht : taskF (padF a s.data.toList) = 0 := by
    apply Classical.byContradiction
    intro hc
    unfold shownF at o1
    rw [if_pos hc] at o1
    exact hc o1
   have g := TkP.of ht
   unfold shownF at o2
   rw [if_neg (fun k => k ht)] at o2
   have es : s.data.toList = shownL (padF a s.data.toList) := by
    have := congrArg (fun x : ByteArray => x.data.toList) o2
    simpa using this.symm
   have el := lines_shown g
   rw [← es] at el
   have er := read_shown g
   rw [el, List.dropLast_concat, words_shown g, er]
   simp only
   rw [if_pos (by simp [ht])]
 · rw [if_neg ok]
   cases e : readL ⟨tk0, 0⟩ ((spl 10 s.data.toList).dropLast.map (spl 32)) with
   | none => rfl
   | some q =>
     simp only
     by_cases c2 : q.tm = 3 ∧ (spl 10 s.data.toList).getLast? = some [] ∧ taskF q.t = 0
     · exfalso
       have es := key q e c2.1 c2.2.1 c2.2.2
       have ep : padF a s.data.toList = q.t := by rw [es]; exact pad_text ha (TkP.of c2.2.2)
       refine ok ?_
       rw [ep]
       unfold shownF
       rw [if_neg (fun k => k c2.2.2)]
       exact ⟨rfl, by rw [← es]⟩
     · rw [if_neg c2]
theorem flat_len {α : Type} {f : α → List UInt8} {k : Nat} : ∀ (l : List α), (∀ x ∈ l, (f x).length ≤ k) → (l.flatMap f).length ≤ k * l.length
 | [], _ => Nat.zero_le _
 | x :: l, h => by
   have h1 := h x List.mem_cons_self
   have h2 := flat_len l fun y hy => h y (List.mem_cons_of_mem _ hy)
   rw [List.flatMap_cons, List.length_append, List.length_cons, Nat.mul_succ]; omega
theorem varL_len {v : Vr} (hn : nameP v.name) (h : -1000 ≤ v.low ∧ v.low ≤ 1000 ∧ -1000 ≤ v.high ∧ v.high ≤ 1000 ∧ -1000 ≤ v.init ∧ v.init ≤ 1000) : (varL v).length ≤ 50 := by
 have h0 := name_len hn
 have h1 := itoa_len (n := v.low) (by omega) (by omega)
 have h2 := itoa_len (n := v.high) (by omega) (by omega)
 have h3 := itoa_len (n := v.init) (by omega) (by omega)
 unfold varL varW
 simp only [List.length_append, List.length_cons, List.length_nil]; omega
theorem varN_len {vars : List Vr} (hn : ∀ v ∈ vars, nameP v.name) (i : Int) : (varN vars i).length ≤ 8 := by
 unfold varN
 by_cases h : i.toNat < vars.length
 · rw [List.getElem?_eq_getElem h]; exact name_len (hn _ (List.getElem_mem h))
 · rw [List.getElem?_eq_none (by omega)]; exact Nat.zero_le _
theorem setL_len {vars : List Vr} (hn : ∀ v ∈ vars, nameP v.name) {s : St} {k : Nat} (h : ∀ o ∈ s.val, OpP vars.length 0 o) (hk : s.val.length ≤ k) : (setL vars s).length ≤ 13 + 13 * k := by
 have h1 := varN_len hn s.var
 have h2 := term_len hn (by decide) s.val h
 unfold varN at h1
 unfold setL setW
 simp only [List.length_append, List.length_cons, List.length_nil]; omega
theorem ruleL_len {vars : List Vr} (hn : ∀ v ∈ vars, nameP v.name) {r : Ru} {g n k : Nat} (h : ∀ o ∈ r.guard, OpP vars.length 0 o) (hg : r.guard.length ≤ g) (hs : r.sets.length ≤ n) (h2 : ∀ s ∈ r.sets, (∀ o ∈ s.val, OpP vars.length 0 o) ∧ s.val.length ≤ k) : (ruleL vars r).length ≤ 5 + 13 * g + (13 + 13 * k) * n := by
 have h1 := term_len hn (by decide) r.guard h
 have h3 := flat_len (f := setL vars) (k := 13 + 13 * k) r.sets fun s hs => setL_len hn (h2 s hs).1 (h2 s hs).2
 have h4 := Nat.mul_le_mul_left (13 + 13 * k) hs
 unfold ruleL ruleW
 simp only [List.length_append, List.length_cons, List.length_nil]; omega
theorem propL_len {vars : List Vr} (hn : ∀ v ∈ vars, nameP v.name) {p : List Fo} {k : Nat} (h : ∀ o ∈ p, OpP vars.length 0 o) (hk : p.length ≤ k) : (propL vars p).length ≤ 5 + 13 * k := by
 have h1 := term_len hn (by decide) p h
 unfold propL propW
 simp only [List.length_append, List.length_cons, List.length_nil]; omega
theorem checkL_len {vars : List Vr} (hn : ∀ v ∈ vars, nameP v.name) {np : Int} (hp : np ≤ 6) {p : List Fo} {k : Nat} (h : ∀ o ∈ p, OpP vars.length np o) (hk : p.length ≤ k) : (checkL vars p).length ≤ 6 + 13 * k := by
 have h1 := term_len hn hp p h
 unfold checkL checkW
 simp only [List.length_append, List.length_cons, List.length_nil]; omega
theorem shownL_size {t : Tk} (h : TkP t) {nv nr g n k np p f : Nat} (hv : t.model.vars.length ≤ nv) (hr : t.model.rules.length ≤ nr) (h1 : ∀ r ∈ t.model.rules, r.guard.length ≤ g ∧ r.sets.length ≤ n ∧ ∀ s ∈ r.sets, s.val.length ≤ k)
 (hp : t.props.length ≤ np) (h2 : ∀ q ∈ t.props, q.length ≤ p) (hf : t.formula.length ≤ f) : (shownL t).length ≤ 50 * nv + (5 + 13 * g + (13 + 13 * k) * n) * nr + (5 + 13 * p) * np + (6 + 13 * f) := by
 have a1 := flat_len (f := varL) (k := 50) t.model.vars fun v hv => varL_len (h.names v hv) (h.range v hv)
 have a2 := flat_len (f := ruleL t.model.vars) (k := 5 + 13 * g + (13 + 13 * k) * n) t.model.rules fun r hr => ruleL_len h.names (h.guards r hr).ops (h1 r hr).1 (h1 r hr).2.1 fun s hs => ⟨(h.sets r hr s hs).2.2.ops, (h1 r hr).2.2 s hs⟩
 have a3 := flat_len (f := propL t.model.vars) (k := 5 + 13 * p) t.props fun q hq => propL_len h.names (h.props q hq).ops (h2 q hq)
 have np6 : (t.props.length : Int) ≤ 6 := by have := h.props6; omega
 have a4 := checkL_len h.names np6 h.form.ops hf
 have b1 := Nat.mul_le_mul_left 50 hv
 have b2 := Nat.mul_le_mul_left (5 + 13 * g + (13 + 13 * k) * n) hr
 have b3 := Nat.mul_le_mul_left (5 + 13 * p) hp
 unfold shownL
 rw [List.length_append, List.length_append, List.length_append]; omega
theorem shownL_big {t : Tk} (h : TkP t) : (shownL t).length ≤ 80000 := by
 have := shownL_size h (nv := 6) (nr := 12) (g := 60) (n := 6) (k := 60) (np := 6) (p := 60) (f := 60) h.vars6 h.rules
  (fun r hr => ⟨(h.guards r hr).few, h.sets6 r hr, fun s hs => (h.sets r hr s hs).2.2.few⟩) h.props6 (fun q hq => (h.props q hq).few) h.form.few
 omega
def atoiV (w : List UInt8) : Int := match Lib.atoiAll w with
 | .ok v => v
 | .range => Lib.atoiSat w
 | _ => 0
theorem fold_ge : ∀ (l : List UInt8) (acc : Nat), acc ≤ l.foldl (fun a b => a * 10 + (b.toNat - 48)) acc
 | [], acc => Nat.le_refl _
 | b :: l, acc => by
   have := fold_ge l (acc * 10 + (b.toNat - 48))
   rw [List.foldl_cons]; omega
theorem parse_fold : ∀ (l : List UInt8) (acc : Nat), (∀ b ∈ l, 48 ≤ b.toNat ∧ b.toNat ≤ 57) → l.foldl (fun a b => a * 10 + (b.toNat - 48)) acc < 1000000 → Lib.parseUint10 acc l = .ok (l.foldl (fun a b => a * 10 + (b.toNat - 48)) acc)
 | [], acc, _, _ => rfl
 | b :: l, acc, h, hl => by
   rw [List.foldl_cons] at hl ⊢
   have h1 := fold_ge l (acc * 10 + (b.toNat - 48))
   rw [Lib.parseUint10, if_pos (h b List.mem_cons_self), if_neg (by omega), if_neg (by omega)]
   exact parse_fold l _ (fun x hx => h x (List.mem_cons_of_mem _ hx)) hl
theorem parse_dec {n : Nat} (h : n < 1000000) : Lib.parseMag (Lib.decDigits n) = .ok n := by
 have e : (Lib.decDigits n).foldl (fun a b => a * 10 + (b.toNat - 48)) 0 = n := valD_dec n
 unfold Lib.parseMag
 rw [if_neg (dec_ne n), parse_fold _ 0 (dec_digits n) (by rw [e]; exact h), e]
theorem atoi_itoa {n : Int} (h1 : -100000 ≤ n) (h2 : n ≤ 100000) : Lib.atoiAll (Lib.itoa n) = .ok n := by
 unfold Lib.itoa
 by_cases c : n < 0
 · rw [if_pos c]
   unfold Lib.atoiAll
   simp only
   rw [if_pos (by decide), parse_dec (by omega)]
   simp only
   rw [if_neg (fun k => k.1 (by decide)), if_neg (by omega), if_pos (by decide)]
   congr 1; omega
 · rw [if_neg c]
   obtain ⟨b, l, e, q1, q2⟩ := dec_first n.toNat
   have hp := parse_dec (n := n.toNat) (by omega)
   rw [e] at hp ⊢
   unfold Lib.atoiAll
   simp only
   rw [if_neg (by omega), hp]
   simp only
   rw [if_neg (by omega), if_neg (by omega), if_neg (by omega)]
   congr 1; omega
theorem atoi_num : NumR atoiV := fun n h1 h2 => by
 unfold atoiV
 rw [atoi_itoa (by omega) (by omega)]
theorem index_no (c : UInt8) : ∀ (s : List UInt8), c ∉ s → Lib.index s [c] = -1
 | [], _ => rfl
 | b :: s, h => by
   have hb : ¬ c = b := fun e => h (by rw [e]; exact List.mem_cons_self)
   rw [Lib.index, if_neg (by simp [List.isPrefixOf, hb]), index_no c s fun k => h (List.mem_cons_of_mem _ k)]
   rfl
theorem index_at (c : UInt8) : ∀ (w r : List UInt8), c ∉ w → Lib.index (w ++ c :: r) [c] = w.length
 | [], r, _ => by
   rw [List.nil_append, Lib.index, if_pos (by simp [List.isPrefixOf])]; rfl
 | b :: w, r, h => by
   have hb : ¬ c = b := fun e => h (by rw [e]; exact List.mem_cons_self)
   have ih := index_at c w r fun k => h (List.mem_cons_of_mem _ k)
   rw [List.cons_append, Lib.index, if_neg (by simp [List.isPrefixOf, hb]), ih, if_neg (by simp), List.length_cons]
   omega
theorem splitK_spl (c : UInt8) : ∀ (n : Nat) (s : List UInt8), s.length < n → Lib.splitK [c] 0 (Lib.count s [c]) s = spl c s
 | 0, s, h => by omega
 | n + 1, s, h => by
   by_cases hc : c ∈ s
   · obtain ⟨w, r, e, hw⟩ := List.eq_append_cons_of_mem hc
     subst e
     have hi := index_at c w r hw
     have hr : (w ++ c :: r).drop (w.length + 1) = r := by rw [List.drop_append]; simp
     rw [Lib.count_hit (by simp) hi, List.length_singleton, hr, Nat.add_comm, Lib.splitK, if_neg (by rw [hi]; simp), hi]
     rw [List.length_singleton, Int.toNat_natCast, Nat.add_zero, hr, spl_app c w r hw, List.take_left]
     rw [splitK_spl c n r (by rw [List.length_append, List.length_cons] at h; omega)]
   · rw [Lib.count_miss (index_no c s hc), Lib.splitK, spl_word c s hc]
theorem splitB_spl (c : UInt8) (s : ByteArray) : Lib.splitB (tx [c]) 0 (Lib.countB s (tx [c])) s = (spl c s.data.toList).map tx := by
 have h := Lib.splitB_data (tx [c]) 0 (Lib.countB s (tx [c])) s
 have e : (tx [c]).data.toList = [c] := by simp
 rw [e] at h
 have h2 : Lib.splitK [c] 0 (Lib.countB s (tx [c])) s.data.toList = spl c s.data.toList := by
  show Lib.splitK [c] 0 (Lib.count s.data.toList (tx [c]).data.toList) s.data.toList = _
  rw [e]
  exact splitK_spl c _ _ (Nat.lt_succ_self _)
 rw [← h2, ← h, List.map_map]
 conv => lhs; rw [← List.map_id (Lib.splitB (tx [c]) 0 (Lib.countB s (tx [c])) s)]
 exact List.map_congr_left fun x _ => (tx_list x).symm
def endsE : List (List UInt8) → List (List UInt8)
 | [] => []
 | [w] => if w = [] then [] else [w]
 | w :: v :: ws => (w ++ [10]) :: endsE (v :: ws)
def linesE (s : List UInt8) : List (List UInt8) := endsE (spl 10 s)
theorem linesE_nil : linesE [] = [] := rfl
theorem linesE_line {w : List UInt8} (h : (10 : UInt8) ∉ w) (r : List UInt8) : linesE (w ++ 10 :: r) = (w ++ [10]) :: linesE r := by
 unfold linesE
 rw [spl_app 10 w r h]
 cases e : spl 10 r with
 | nil => exact absurd e (spl_ne 10 r)
 | cons v ws => rfl
theorem linesE_last {w : List UInt8} (h : (10 : UInt8) ∉ w) (hw : w ≠ []) : linesE w = [w] := by
 unfold linesE
 rw [spl_word 10 w h, endsE, if_neg hw]
theorem trim_line (w : List UInt8) : Lib.trimSuffix (w ++ [10]) [10] = w := by
 unfold Lib.trimSuffix Lib.hasSuffix
 rw [if_pos (by simp)]
 simp
theorem trim_last {w : List UInt8} (h : (10 : UInt8) ∉ w) : Lib.trimSuffix w [10] = w := by
 unfold Lib.trimSuffix Lib.hasSuffix
 rw [if_neg]
 intro k
 have := List.isSuffixOf_iff_suffix.1 k
 obtain ⟨t, e⟩ := this
 exact h (by rw [← e]; simp)
theorem ends_trim : ∀ K : List (List UInt8), K ≠ [] → (∀ w ∈ K, (10 : UInt8) ∉ w) → (endsE K).map (fun w => Lib.trimSuffix w [10]) = if K.getLast? = some [] then K.dropLast else K
 | [], h, _ => absurd rfl h
 | [w], _, h => by
   rw [endsE]
   by_cases hw : w = []
   · rw [if_pos hw, if_pos (by simp [hw])]; rfl
   · rw [if_neg hw, if_neg (by simp [hw]), List.map_cons, trim_last (h w List.mem_cons_self)]; rfl
 | w :: v :: ws, _, h => by
   have ih := ends_trim (v :: ws) (by simp) fun x hx => h x (List.mem_cons_of_mem _ hx)
   have e : (w :: v :: ws).getLast? = (v :: ws).getLast? := rfl
   rw [endsE, List.map_cons, trim_line, ih, e]
   split <;> rfl
theorem linesE_trim (s : List UInt8) : (linesE s).map (fun w => Lib.trimSuffix w [10]) = linesP s :=
 ends_trim (spl 10 s) (spl_ne 10 s) (spl_no 10 s)
theorem padF_lines (a : List UInt8 → Int) (s : List UInt8) : padF a s = (linesE s).foldl (fun t w => padLine a t (spl 32 (Lib.trimSuffix w [10]))) tk0 := by
 unfold padF
 rw [← linesE_trim, List.map_map, List.foldl_map]
 rfl
structure CutI (c : UInt8) (s : List UInt8) (f i : Nat) (ws : List (List UInt8)) : Prop where
 le : f ≤ i
 len : i ≤ s.length
 pre : s.take f = ws.flatMap fun w => w ++ [c]
 no : ∀ w ∈ ws, c ∉ w
 cur : c ∉ (s.drop f).take (i - f)
theorem CutI.start (c : UInt8) (s : List UInt8) : CutI c s 0 0 [] := ⟨Nat.le_refl _, Nat.zero_le _, rfl, fun w hw => (by cases hw), by simp⟩
theorem take_next (s : List UInt8) {f i : Nat} (h : f ≤ i) (hi : i < s.length) : (s.drop f).take (i + 1 - f) = (s.drop f).take (i - f) ++ [s[i]] := by
 rw [show i + 1 - f = i - f + 1 by omega, List.take_succ_eq_append_getElem (by rw [List.length_drop]; omega), List.getElem_drop]
 congr 2
 congr 1
 omega
theorem CutI.on {c : UInt8} {s : List UInt8} {f i : Nat} {ws : List (List UInt8)} (h : CutI c s f i ws) (hi : i < s.length) (hc : s[i] ≠ c) : CutI c s f (i + 1) ws := by
 refine ⟨Nat.le_succ_of_le h.le, hi, h.pre, h.no, ?_⟩
 rw [take_next s h.le hi]
 intro k
 rcases List.mem_append.1 k with k | k
 · exact h.cur k
 · exact hc (List.mem_singleton.1 k).symm
theorem CutI.cut {c : UInt8} {s : List UInt8} {f i : Nat} {ws : List (List UInt8)} (h : CutI c s f i ws) (hi : i < s.length) (hc : s[i] = c) : CutI c s (i + 1) (i + 1) (ws ++ [(s.drop f).take (i - f)]) := by
 refine ⟨Nat.le_refl _, hi, ?_, ?_, by simp⟩
 · have e : s.take (i + 1) = s.take f ++ (s.drop f).take (i + 1 - f) := by
    rw [List.take_drop, show f + (i + 1 - f) = i + 1 by have := h.le; omega]
    conv => lhs; rw [← List.take_append_drop f (s.take (i + 1))]
    rw [List.take_take, Nat.min_eq_left (Nat.le_succ_of_le h.le)]
   rw [e, take_next s h.le hi, h.pre, hc, List.flatMap_append]
   simp
 · intro w hw
   rcases List.mem_append.1 hw with hw | hw
   · exact h.no w hw
   · rw [List.mem_singleton] at hw
     rw [hw]; exact h.cur
theorem CutI.ends {c : UInt8} {s : List UInt8} {f : Nat} {ws : List (List UInt8)} (h : CutI c s f s.length ws) : spl c s = ws ++ [s.drop f] := by
 have hf : c ∉ s.drop f := by
  have := h.cur
  rwa [List.take_of_length_le (by rw [List.length_drop]; exact Nat.le_refl _)] at this
 have key : ∀ ws : List (List UInt8), (∀ w ∈ ws, c ∉ w) → spl c ((ws.flatMap fun w => w ++ [c]) ++ s.drop f) = ws ++ [s.drop f] := by
  intro ws
  induction ws with
  | nil => intro _; exact spl_word c _ hf
  | cons w ws ih =>
    intro hn
    rw [List.flatMap_cons, List.append_assoc, List.append_assoc, List.singleton_append, spl_app c w _ (hn w List.mem_cons_self), ih fun x hx => hn x (List.mem_cons_of_mem _ hx)]
    rfl
 rw [← key ws h.no, ← h.pre, List.take_append_drop]
theorem CutI.lines {s : List UInt8} {f : Nat} {ws : List (List UInt8)} (h : CutI 10 s f s.length ws) : (spl 10 s).dropLast = ws ∧ ((spl 10 s).getLast? = some [] ↔ f = s.length) := by
 have hf : f ≤ s.length := h.le
 rw [h.ends, List.dropLast_concat]
 refine ⟨rfl, ?_⟩
 rw [List.getLast?_concat, Option.some.injEq, List.drop_eq_nil_iff]
 omega
theorem markK_first {w : List UInt8} {j : Nat} (hj : j < 16) (h : markL (j + 3 : Nat) = w) (hw : w ≠ []) (hn : ∀ i, i < j → markL (i + 3 : Nat) ≠ w) : markK w = some j := by
 unfold markK
 rw [List.find?_eq_some_iff_getElem]
 refine ⟨decide_eq_true ⟨h, hw⟩, j, by simpa using hj, by simp, fun i hi => ?_⟩
 simp only [List.getElem_range, Bool.not_eq_true', decide_eq_false_iff_not]
 exact fun k => hn i hi k.1
theorem markK_never {w : List UInt8} (hn : ∀ i, i < 16 → markL (i + 3 : Nat) ≠ w) : markK w = none := markK_no fun i hi => absurd hi (hn i.val i.isLt)
theorem markK_empty : markK [] = none := markK_no fun _ _ => rfl
theorem varI_first {l : List Vr} {w : List UInt8} : ∀ (i : Nat) (h : i < l.length), l[i].name.data.toList = w → (∀ j (hj : j < i), (l[j]'(Nat.lt_trans hj h)).name.data.toList ≠ w) → varI l w = i := by
 induction l with
 | nil => intro i h; simp at h
 | cons v l ih =>
   intro i h e hn
   cases i with
   | zero =>
     rw [varI, if_pos (by simpa using e)]; rfl
   | succ i =>
     have h1 : i < l.length := by simpa using h
     have ih' := ih i h1 (by simpa using e) fun j hj => by have := hn (j + 1) (by omega); simpa using this
     rw [varI, if_neg (by have := hn 0 (by omega); simpa using this), ih', if_neg (by omega)]
     omega
theorem flat_take_len {α : Type} (f : α → List UInt8) (l : List α) (i : Nat) : ((l.take i).flatMap f).length ≤ (l.flatMap f).length := by
 have h : l.flatMap f = (l.take i).flatMap f ++ (l.drop i).flatMap f := by rw [← List.flatMap_append, List.take_append_drop]
 rw [h, List.length_append]; omega
theorem flat_one_len {α : Type} (f : α → List UInt8) (l : List α) (i : Nat) (h : i < l.length) : (f l[i]).length ≤ (l.flatMap f).length := by
 have h1 := flat_take_len f l (i + 1)
 rw [flat_at f l i h, List.length_append] at h1
 omega
structure TkL (t : Tk) : Prop where
 all : (t.model.vars.flatMap varL).length + (t.model.rules.flatMap (ruleL t.model.vars)).length + (t.props.flatMap (propL t.model.vars)).length + (checkL t.model.vars t.formula).length ≤ 80000
theorem TkL.of {t : Tk} (h : TkP t) : TkL t := ⟨by
 have := shownL_big h
 unfold shownL at this
 simp only [List.length_append] at this
 omega⟩
theorem setL_eq {vars : List Vr} {s : St} (h : s.var.toNat < vars.length) : setL vars s = setW ++ vars[s.var.toNat].name.data.toList ++ (termL vars s.val ++ [10]) := by
 unfold setL
 rw [List.getElem?_eq_getElem h]
 simp
theorem ruleL_eq (vars : List Vr) (r : Ru) : ruleL vars r = ruleW ++ (termL vars r.guard ++ [10]) ++ r.sets.flatMap (setL vars) := by
 unfold ruleL; simp
theorem propL_eq (vars : List Vr) (l : List Fo) : propL vars l = propW ++ (termL vars l ++ [10]) := by unfold propL; simp
theorem checkL_eq (vars : List Vr) (l : List Fo) : checkL vars l = checkW ++ (termL vars l ++ [10]) := by unfold checkL; simp
theorem spl_len (c : UInt8) : ∀ s : List UInt8, (spl c s).length ≤ s.length + 1
 | [] => by simp [spl]
 | b :: l => by
   have ih := spl_len c l
   have hne := spl_ne c l
   unfold spl
   split
   · simp only [List.length_cons]; omega
   · cases h : spl c l with
     | nil => exact absurd h hne
     | cons w ws => rw [h] at ih; simp only [List.length_cons] at ih ⊢; omega
theorem spl_word_len (c : UInt8) : ∀ s : List UInt8, ∀ w ∈ spl c s, w.length ≤ s.length
 | [], w, h => by simp [spl] at h; subst h; exact Nat.le_refl _
 | b :: l, w, h => by
   have ih := spl_word_len c l
   unfold spl at h
   split at h
   · rcases List.mem_cons.1 h with rfl | h
     · simp
     · have := ih w h; simp only [List.length_cons]; omega
   · cases hs : spl c l with
     | nil => exact absurd hs (spl_ne c l)
     | cons v vs =>
       rw [hs] at h ih
       dsimp only at h
       rcases List.mem_cons.1 h with rfl | h
       · have := ih v (by simp); simp only [List.length_cons]; omega
       · have := ih w (by simp [h]); simp only [List.length_cons]; omega
theorem indexByte_no : ∀ s : List UInt8, (10 : UInt8) ∉ s → Lib.indexByte s 10 = -1
 | [], _ => rfl
 | b :: l, h => by
   simp only [List.mem_cons, not_or] at h
   have hb : (b == 10) = false := by simpa using fun e => h.1 e.symm
   rw [Lib.indexByte, hb, indexByte_no l h.2]
   rfl
theorem indexByte_at : ∀ (w r : List UInt8), (10 : UInt8) ∉ w → Lib.indexByte (w ++ 10 :: r) 10 = w.length
 | [], r, _ => rfl
 | b :: w, r, h => by
   simp only [List.mem_cons, not_or] at h
   have hb : (b == 10) = false := by simpa using fun e => h.1 e.symm
   have ih := indexByte_at w r h.2
   rw [List.cons_append, Lib.indexByte, hb, ih]
   have h1 : ((w.length : Int) == -1) = false := by simp
   simp only [h1, Bool.false_eq_true, if_false, List.length_cons]
   omega
theorem line_next {s : List UInt8} (h : s ≠ []) : (0 ≤ Lib.indexByte s 10 ∧ (Lib.indexByte s 10).toNat < s.length ∧ linesE s = s.take ((Lib.indexByte s 10).toNat + 1) :: linesE (s.drop ((Lib.indexByte s 10).toNat + 1))) ∨ (Lib.indexByte s 10 < 0 ∧ linesE s = s :: linesE []) := by
 by_cases hm : (10 : UInt8) ∈ s
 · left
   obtain ⟨w, r, rfl, hw⟩ := List.eq_append_cons_of_mem hm
   rw [indexByte_at w r hw]
   have e1 : (w ++ 10 :: r).take (w.length + 1) = w ++ [10] := by
    rw [show w ++ 10 :: r = (w ++ [10]) ++ r by simp]
    exact List.take_left' (by simp)
   have e2 : (w ++ 10 :: r).drop (w.length + 1) = r := by
    rw [show w ++ 10 :: r = (w ++ [10]) ++ r by simp]
    exact List.drop_left' (by simp)
   refine ⟨by omega, by simp, ?_⟩
   rw [show ((w.length : Int)).toNat = w.length by omega, e1, e2, linesE_line hw]
 · right
   rw [indexByte_no s hm]
   exact ⟨by decide, by rw [linesE_last hm h, linesE_nil]⟩
theorem line_len : ∀ (n : Nat) (s : List UInt8), s.length ≤ n → ∀ x ∈ linesE s, x.length ≤ s.length
 | 0, s, h, x, hx => by
   have : s = [] := List.length_eq_zero_iff.1 (by omega)
   subst this
   rw [linesE_nil] at hx
   cases hx
 | n + 1, s, h, x, hx => by
   by_cases h0 : s = []
   · subst h0; rw [linesE_nil] at hx; cases hx
   rcases line_next h0 with ⟨a, b, e⟩ | ⟨a, e⟩
   · rw [e] at hx
     rcases List.mem_cons.1 hx with rfl | hx
     · exact List.length_take_le' _ _
     · have hl : (s.drop ((Lib.indexByte s 10).toNat + 1)).length ≤ n := by rw [List.length_drop]; omega
       have := line_len n _ hl x hx
       rw [List.length_drop] at this
       omega
   · rw [e, linesE_nil] at hx
     rcases List.mem_cons.1 hx with rfl | hx
     · exact Nat.le_refl _
     · cases hx
theorem has_P (w : List UInt8) : Lib.hasPrefix w [80] = true ↔ ∃ r, w = 80 :: r := by
 cases w with
 | nil => exact ⟨fun h => (by cases h), fun ⟨r, h⟩ => (by cases h)⟩
 | cons b l =>
   have e : Lib.hasPrefix (b :: l) [80] = (80 == b) := by simp [Lib.hasPrefix, List.isPrefixOf]
   rw [e]
   constructor
   · intro h; exact ⟨l, by rw [← eq_of_beq h]⟩
   · rintro ⟨r, h⟩; cases h; rfl
theorem trim_P (r : List UInt8) : Lib.trimPrefix (80 :: r) [80] = r := by
 unfold Lib.trimPrefix; rw [if_pos ((has_P (80 :: r)).2 ⟨r, rfl⟩)]; rfl
def ruX (x : List Fo × D) : List D := [opsD x.1, x.2]
def ruD (r : Ru) : List Fo × D := (r.guard, setsD r.sets)
def slD (q : Sl) : D := .ve q.v rfl
structure Pq where
 vars : List Vr
 done : List Ru
 cur : Option (List Fo)
 sets : List St
 props : List (List Fo)
 form : List Fo
def Pq.rl (d : Pq) (qs : Sl) : List (List Fo × D) := d.done.map ruD ++ match d.cur with | none => [] | some g => [(g, slD qs)]
def Pq.rules (d : Pq) : List Ru := d.done ++ match d.cur with | none => [] | some g => [⟨g, d.sets⟩]
def Pq.tk (d : Pq) : Tk := ⟨⟨d.vars, d.rules⟩, d.props, d.form⟩
def Pq.ok (d : Pq) : Prop := d.cur = none → d.done = [] ∧ d.sets = []
def pq0 : Pq := ⟨[], [], none, [], [], []⟩
theorem pq0_ok : pq0.ok := fun _ => ⟨rfl, rfl⟩
theorem Pq.rl_len (d : Pq) (qs : Sl) : (d.rl qs).length = d.rules.length := by
 unfold Pq.rl Pq.rules
 cases d.cur <;> simp
def Pq.rule (d : Pq) (g : List Fo) : Pq := ⟨d.vars, d.rules, some g, [], d.props, d.form⟩
def Pq.set (d : Pq) (s : St) : Pq := ⟨d.vars, d.done, d.cur, d.sets ++ [s], d.props, d.form⟩
theorem Pq.set_tk (d : Pq) (s : St) {g : List Fo} (h : d.cur = some g) : (d.set s).tk = ⟨⟨d.vars, addSet d.rules s⟩, d.props, d.form⟩ := by
 unfold Pq.tk Pq.rules Pq.set
 rw [h]
 simp only [addSet_snoc]
section
variable (a : List UInt8 → Int) (r : Ln)
theorem padVar_s0 (h : 0 < r.length) : padVar a (r.take 1) = { padVar a (r.take 0) with name := tx r[0] } := by
 match r, h with
 | w :: r, _ => rfl
theorem padVar_s1 (h : 1 < r.length) : padVar a (r.take 2) = { padVar a (r.take 1) with low := a r[1] } := by
 match r, h with
 | _ :: w :: r, _ => rfl
theorem padVar_s2 (h : 2 < r.length) : padVar a (r.take 3) = { padVar a (r.take 2) with high := a r[2] } := by
 match r, h with
 | _ :: _ :: w :: r, _ => rfl
theorem padVar_s3 (h : 3 < r.length) : padVar a (r.take 4) = { padVar a (r.take 3) with init := a r[3] } := by
 match r, h with
 | _ :: _ :: _ :: w :: r, _ => rfl
theorem padVar_s4 {i : Nat} (h : 4 ≤ i) : padVar a (r.take (i + 1)) = padVar a (r.take i) := by
 match i, h with
 | i + 4, _ =>
   match r with
   | [] => rfl
   | [_] => rfl
   | [_, _] => rfl
   | [_, _, _] => rfl
   | _ :: _ :: _ :: _ :: r => rfl
end
structure TkN (n : Nat) (t : Tk) : Prop where
 vars : t.model.vars.length ≤ n
 rules : t.model.rules.length ≤ n
 sets : ∀ r ∈ t.model.rules, r.sets.length ≤ n
 props : t.props.length ≤ n
theorem TkN.zero : TkN 0 tk0 := ⟨Nat.le_refl _, Nat.le_refl _, fun _ h => (by cases h), Nat.le_refl _⟩
theorem addSet_len : ∀ (l : List Ru) (s : St), (addSet l s).length = l.length ∧ ∀ n, (∀ r ∈ l, r.sets.length ≤ n) → ∀ r ∈ addSet l s, r.sets.length ≤ n + 1 := by
 intro l s
 rcases List.eq_nil_or_concat l with rfl | ⟨l', r, rfl⟩
 · exact ⟨rfl, fun n _ r hr => (by cases hr)⟩
 · rw [List.concat_eq_append] at *
   obtain ⟨g, ss⟩ := r
   rw [addSet_snoc]
   refine ⟨by simp, fun n h r hr => ?_⟩
   rcases List.mem_append.1 hr with hr | hr
   · have := h r (List.mem_append.2 (.inl hr)); omega
   · have := h ⟨g, ss⟩ (by simp)
     simp only [List.mem_cons, List.not_mem_nil, or_false] at hr
     subst hr
     simp only [List.length_append, List.length_cons, List.length_nil] at *
     omega
theorem TkN.line {n : Nat} {t : Tk} (a : List UInt8 → Int) (h : TkN n t) : ∀ l : Ln, TkN (n + 1) (padLine a t l) := by
 obtain ⟨h1, h2, h3, h4⟩ := h
 have base : TkN (n + 1) t := ⟨by omega, by omega, fun r hr => Nat.le_succ_of_le (h3 r hr), by omega⟩
 intro l
 cases l with
 | nil => exact base
 | cons w r =>
   unfold padLine
   dsimp only
   split
   · exact ⟨by simp; omega, by simp; omega, fun r hr => Nat.le_succ_of_le (h3 r hr), by simp; omega⟩
   split
   · refine ⟨by simp; omega, by simp; omega, fun r hr => ?_, by simp; omega⟩
     rcases List.mem_append.1 hr with hr | hr
     · exact Nat.le_succ_of_le (h3 r hr)
     · simp only [List.mem_cons, List.not_mem_nil, or_false] at hr
       subst hr
       exact Nat.zero_le _
   split
   · split
     · have k := addSet_len t.model.rules ⟨varI t.model.vars (r.headD []), r.tail.map (padOp a t.model.vars)⟩
       exact ⟨by simp; omega, by show (addSet _ _).length ≤ _; rw [k.1]; omega, fun r hr => k.2 n h3 r hr, by simp; omega⟩
     · exact base
   split
   · exact ⟨by simp; omega, by simp; omega, fun r hr => Nat.le_succ_of_le (h3 r hr), by simp; omega⟩
   split
   · exact ⟨by simp; omega, by simp; omega, fun r hr => Nat.le_succ_of_le (h3 r hr), by simp; omega⟩
   · exact base
theorem TkN.fold (a : List UInt8 → Int) {α : Type} (f : α → Ln) : ∀ (l : List α) (n : Nat) (t : Tk), TkN n t → TkN (n + l.length) (l.foldl (fun t w => padLine a t (f w)) t)
 | [], n, t, h => h
 | x :: l, n, t, h => by
   have := TkN.fold a f l (n + 1) _ (h.line a (f x))
   rw [List.foldl_cons, List.length_cons]
   rwa [show n + (l.length + 1) = n + 1 + l.length by omega]
theorem ends_len : ∀ K : List (List UInt8), (endsE K).length ≤ K.length
 | [] => by simp [endsE]
 | [w] => by rw [endsE]; split <;> simp
 | w :: v :: ws => by
   have := ends_len (v :: ws)
   rw [endsE, List.length_cons, List.length_cons]
   omega
theorem lines_len (s : List UInt8) : (linesE s).length ≤ s.length + 1 := Nat.le_trans (ends_len _) (spl_len 10 s)
theorem trim_len (w : List UInt8) : (Lib.trimSuffix w [10]).length ≤ w.length := by
 unfold Lib.trimSuffix
 split
 · simp only [List.length_take]; omega
 · exact Nat.le_refl _
theorem Pq.count {d : Pq} {n : Nat} (h : TkN n d.tk) (hok : d.ok) : d.vars.length ≤ n ∧ d.done.length ≤ n ∧ d.sets.length ≤ n ∧ d.props.length ≤ n ∧ d.rules.length ≤ n := by
 obtain ⟨h1, h2, h3, h4⟩ := h
 have h2' : d.rules.length ≤ n := h2
 refine ⟨h1, ?_, ?_, h4, h2'⟩
 · unfold Pq.rules at h2'
   rw [List.length_append] at h2'
   omega
 · cases hc : d.cur with
   | none => rw [(hok hc).2]; exact Nat.zero_le _
   | some g =>
     have hm : (⟨g, d.sets⟩ : Ru) ∈ d.rules := by unfold Pq.rules; rw [hc]; simp
     exact h3 _ hm
end Go.Sp
