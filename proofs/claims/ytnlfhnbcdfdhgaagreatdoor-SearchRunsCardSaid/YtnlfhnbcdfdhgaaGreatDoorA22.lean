/- Own texts. -/
import Derived.Test.YtnlfhnbcdfdhgaaGreatDoorA21
set_option linter.unusedVariables false
set_option linter.unusedSimpArgs false
set_option maxRecDepth 100000
set_option maxHeartbeats 4000000
namespace Go.Proofs.YtnlfhnbcdfdhgaaGreatDoor
open Go Go.Av Go.Sp
theorem Hr : Cal Tryz.prog 102 := Cal.of Tryz.func102 (by kernel_rfl) (by kernel_rfl)
theorem Bg : Cal Tryz.prog 119 := Cal.of Tryz.func119 (by kernel_rfl) (by kernel_rfl)
abbrev grA (g : Gr) : AV := .agg [.d (AO g.spots), .int g.init, .d (AX g.next), .d (AJ g.sets), .int g.many]
theorem PL (n : Nat) (h : n ≤ 6) : 1 ≤ (2 : Int) ^ n ∧ (2 : Int) ^ n ≤ 64 := by
 have : n = 0 ∨ n = 1 ∨ n = 2 ∨ n = 3 ∨ n = 4 ∨ n = 5 ∨ n = 6 := by omega
 rcases this with rfl | rfl | rfl | rfl | rfl | rfl | rfl <;> decide
theorem BZ {g : Gr} (h : ¬ ES g) : Hg g = 9 := if_neg fun k => h k.1
theorem GK {g : Gr} {i : Nat} (hi : i < g.spots.length) (h : ¬ WJ g i) : Hg g = 9 := if_neg fun k => h (k.2 i hi)
theorem FY {g : Gr} (h : okG g) : Hg g = 0 := if_pos h
theorem Zt (G : List (Nat × List D)) (g : Gr) : ACr Tryz.prog G 102 [grA g] (.int (Hg g)) := by
 refine AC.factN (g := BP) (f := AS) (xss := g.next) 1 8 (fun _ => rfl) (.agg (.there (.there .here))) fun hN => ?_
 refine AK (ts := [2]) Tryz.f102.ntmps Tryz.func102 rfl rfl rfl (by simp [Tryz.ntmps102]) fun W I => ?_
 by_cases q1 : ¬ g.spots.length ≤ 20000
 · have hh : ¬ ES g := fun h => by obtain ⟨_, _, _, _, _, _, _⟩ := h; omega
   repeat' (first | exact jA | refine AP ?_ | refine two ?_ ?_ | refine imp fun hc => ?_; try exact cx hc | refine all fun v_ => ?_)
   refine AI jE ?_
   ((with_reducible apply rq1); rfl; rfl)
   exact AA (by rw [BZ hh])
 replace q1 := jY q1
 by_cases q2 : ¬ g.next.length = g.spots.length
 · have hh : ¬ ES g := fun h => by obtain ⟨_, _, _, _, _, _, _⟩ := h; omega
   repeat' (first | exact jA | refine AP ?_ | refine two ?_ ?_ | refine imp fun hc => ?_; try exact cx hc | refine all fun v_ => ?_)
   refine AI jE ?_
   ((with_reducible apply rq1); rfl; rfl)
   exact AA (by rw [BZ hh])
 replace q2 := jY q2
 by_cases q3 : ¬ g.sets.length = g.spots.length
 · have hh : ¬ ES g := fun h => by obtain ⟨_, _, _, _, _, _, _⟩ := h; omega
   repeat' (first | exact jA | refine AP ?_ | refine two ?_ ?_ | refine imp fun hc => ?_; try exact cx hc | refine all fun v_ => ?_)
   refine AI jE ?_
   ((with_reducible apply rq1); rfl; rfl)
   exact AA (by rw [BZ hh])
 replace q3 := jY q3
 by_cases q4 : ¬ 0 ≤ g.init
 · have hh : ¬ ES g := fun h => by obtain ⟨_, _, _, _, _, _, _⟩ := h; omega
   repeat' (first | exact jA | refine AP ?_ | refine two ?_ ?_ | refine imp fun hc => ?_; try exact cx hc | refine all fun v_ => ?_)
   refine AI jE ?_
   ((with_reducible apply rq1); rfl; rfl)
   exact AA (by rw [BZ hh])
 replace q4 := jY q4
 by_cases q5 : ¬ g.init ≤ g.spots.length
 · have hh : ¬ ES g := fun h => by obtain ⟨_, _, _, _, _, _, _⟩ := h; omega
   repeat' (first | exact jA | refine AP ?_ | refine two ?_ ?_ | refine imp fun hc => ?_; try exact cx hc | refine all fun v_ => ?_)
   refine AI jE ?_
   ((with_reducible apply rq1); rfl; rfl)
   exact AA (by rw [BZ hh])
 replace q5 := jY q5
 by_cases q6 : ¬ 0 ≤ g.many
 · have hh : ¬ ES g := fun h => by obtain ⟨_, _, _, _, _, _, _⟩ := h; omega
   repeat' (first | exact jA | refine AP ?_ | refine two ?_ ?_ | refine imp fun hc => ?_; try exact cx hc | refine all fun v_ => ?_)
   refine AI jE ?_
   ((with_reducible apply rq1); rfl; rfl)
   exact AA (by rw [BZ hh])
 replace q6 := jY q6
 by_cases q7 : ¬ g.many ≤ 6
 · have hh : ¬ ES g := fun h => by obtain ⟨_, _, _, _, _, _, _⟩ := h; omega
   repeat' (first | exact jA | refine AP ?_ | refine two ?_ ?_ | refine imp fun hc => ?_; try exact cx hc | refine all fun v_ => ?_)
   refine AI jE ?_
   ((with_reducible apply rq1); rfl; rfl)
   exact AA (by rw [BZ hh])
 replace q7 := jY q7
 have hh : ES g := ⟨q1, q2, q3, q4, q5, q6, q7⟩
 have hp := PL g.many.toNat jB
 have hp2 : Ao (1 * 2 ^ g.many.toNat) := by unfold Ao; omega
 repeat' (first | exact jA | refine AP ?_ | refine two ?_ ?_ | refine imp fun hc => ?_; try exact cx hc | refine all fun v_ => ?_)
 refine AG (X := Nat) (fun i => [(1, .val (.pointer (some ⟨v_, 0, none⟩))), (3, .int g.spots.length), (49, .d (AX g.next)), (50, .int g.next.length), (51, .int i)]) (fun _ => [.cells v_ 51 [.d (AO g.spots), .int g.init, .d (AX g.next), .d (AJ g.sets), .int g.many]]) (fun i => i ≤ g.spots.length ∧ ∀ j, j < i → WJ g j) (fun i => g.spots.length - i) 0 ⟨Nat.zero_le _, fun _ h => by omega⟩ (VS.of_le ?_) ?_
 · exact leD
 rintro i ⟨h1, h2⟩
 by_cases hi : ¬ i < g.spots.length
 · repeat' (first | exact jA | refine AP ?_ | refine two ?_ ?_ | refine imp fun hc => ?_; try exact cx hc | refine all fun v_ => ?_)
   refine AI jE ?_
   ((with_reducible apply rq1); rfl; rfl)
   exact AA (by rw [FY ⟨hh, fun j hj => h2 j jB⟩])
 replace hi := jY hi
 repeat' (first | exact jA | refine AP ?_ | refine two ?_ ?_ | refine imp fun hc => ?_; try exact cx hc | refine all fun v_ => ?_)
 refine AG (X := Nat) (fun j => [(1, .val (.pointer (some ⟨v_, 0, none⟩))), (3, .int g.spots.length), (4, .int i), (49, .d (AX g.next)), (50, .int g.next.length), (51, .int i), (56, .d (AJ (g.next[i]'jB))), (57, .int (g.next[i]'jB).length), (58, .int j)]) (fun _ => [.cells v_ 51 [.d (AO g.spots), .int g.init, .d (AX g.next), .d (AJ g.sets), .int g.many]]) (fun j => j ≤ (g.next[i]'jB).length ∧ ∀ (m : Nat) (hm : m < (g.next[i]'jB).length), m < j → 0 ≤ (g.next[i]'jB)[m] ∧ (g.next[i]'jB)[m] < g.spots.length) (fun j => (g.next[i]'jB).length - j) 0 ⟨Nat.zero_le _, fun _ _ h => by omega⟩ (VS.of_le ?_) ?_
 · exact leD
 rintro j ⟨h3, h4⟩
 have hli : i < g.next.length := by omega
 have hsi : i < g.sets.length := by omega
 have hlj := hN (g.next[i]'jB) (jb _)
 by_cases hj : j < (g.next[i]'jB).length
 · repeat' (first | exact jA | refine AP ?_ | refine two ?_ ?_ | refine imp fun hc => ?_; try exact cx hc | refine all fun v_ => ?_)
   all_goals first
    | (refine AI jE ?_
       ((with_reducible apply rq1); rfl; rfl)
       exact AA (by rw [GK hi (fun h => by have := h.1 hli _ (jb hj); omega)]))
    | (refine ⟨j + 1, ⟨by omega, fun m hm hmj => ?_⟩, by omega, VS.of_le ?_⟩
       · by_cases e : m = j
         · subst e; omega
         · exact h4 m hm jB
       · exact leD)
 have hall : ∀ k ∈ (g.next[i]'jB), 0 ≤ k ∧ k < g.spots.length := fun k hk => by
  obtain ⟨m, hm, rfl⟩ := List.getElem_of_mem hk
  exact h4 m hm jB
 repeat' (first | exact jA | refine AP ?_ | refine two ?_ ?_ | refine imp fun hc => ?_; try exact cx hc | refine all fun v_ => ?_)
 all_goals first
  | (refine AI jE ?_
     ((with_reducible apply rq1); rfl; rfl)
     exact AA (by rw [GK hi (fun h => by have := h.2 hsi; omega)]))
  | (refine ⟨i + 1, ⟨by omega, fun m hm => ?_⟩, by omega, VS.of_le ?_⟩
     · by_cases e : m = i
       · subst e; exact ⟨fun _ => hall, fun _ => by omega⟩
       · exact h2 m jB
     · exact leD)
end Go.Proofs.YtnlfhnbcdfdhgaaGreatDoor
namespace Go.Av
open Go
section
variable {k : Kx} {Q : Exit → Env → H → Prop} {ρ : Env} {h : H} {ops : Array Oper} {l : List Oper} {d : Nat} {ty : TypeId} {pos : String} {after : Array Edge}
theorem IF {f : FuncId} {xs : Array Operand} {ats : Array TypeId} {es args : List AV} {v : Value} (hxs : GJ ρ xs.toList = some es) (hcal : Cal k.P f) (hac : ACr k.P k.c.G f args (.val v)) (hb : QR h es args) (hd : Nat.blt d k.n = true)
 (hj : JL k ops l Q ((d, .val v) :: ρ) h) : JL k ops (⟨some d, .call { callee := .value (.func f), args := xs, argTypes := ats }, ty, pos, after, none⟩ :: l) Q ρ h :=
 jbor (caps := #[]) rfl hxs hcal hac (by simpa using hb) hd hj
end
end Go.Av
namespace Go.Sp
open Go Go.Av
theorem Grown.next_len {t : Tk} {e : Exp} (g : Grown t e) : e.next.length = e.spots.length := by rw [g.next]; simp
theorem Grown.next_at {t : Tk} {e : Exp} (g : Grown t e) {i : Nat} (h : i < e.next.length) : e.next[i] = plF t i := by
 have h1 : e.next[i]? = some (plF t i) := by
  have h2 := h
  rw [g.next_len] at h2
  have := congrArg (fun l => l[i]?) g.next
  rw [this]; simp [h2]
 exact Option.some.inj ((List.getElem?_eq_getElem h).symm.trans h1)
end Go.Sp
namespace Go.Proofs.YtnlfhnbcdfdhgaaGreatDoor
open Go Go.Av Go.Sp
theorem Bd : Cal Tryz.prog 36 := Cal.of Tryz.func36 (by kernel_rfl) (by kernel_rfl)
theorem Bm : Cal Tryz.prog 68 := Cal.of Tryz.func68 (by kernel_rfl) (by kernel_rfl)
theorem L8 (t : Tk) (e : Exp) (g : Grown t e) (am : Int) (k : Nat) (hk : k ≤ e.spots.length) : ACr Tryz.prog GP 36 [grA ⟨e.spots, (nkF t 0 : Nat), e.next, e.sets, am⟩, .int k] (.int (nkF t k)) := by
 have hN := g.few
 have hnl := g.next_len
 refine AK (ts := [4]) Tryz.f36.ntmps Tryz.func36 rfl rfl rfl (by simp [Tryz.ntmps36]) fun W I => ?_
 repeat' (first | exact jA | refine AP ?_ | refine two ?_ ?_ | refine imp fun hc => ?_; try exact cx hc | refine all fun v_ => ?_)
 obtain ⟨bg, rfl⟩ : ∃ x, x = v_ := ⟨v_, rfl⟩
 refine AG (X := Nat) (fun i => [(1, .int k), (2, .val (.pointer (some ⟨bg, 0, none⟩))), (5, .int (nkF t i)), (6, .int i)]) (fun _ => [.cells bg 51 [.d (AO e.spots), .int (nkF t 0 : Nat), .d (AX e.next), .d (AJ e.sets), .int am]]) (fun i => i ≤ k) (fun i => k - i) 0 (Nat.zero_le _) (VS.take AH ?_) ?_
 · exact leD
 intro i hi
 by_cases hik : i < k
 · have hin : i < e.next.length := by omega
   have hp : ∀ y ∈ e.next[i]'hin, 0 ≤ y ∧ y < 20000 := fun y hy => by
    rw [g.next_at hin] at hy
    obtain ⟨p, rfl, b, hb, _⟩ := g.leads jB hy
    have := (List.getElem?_eq_some_iff.1 hb).1
    omega
   have hmx := iC t i
   rw [← g.next_at hin] at hmx
   have hfew : (e.next[i]'hin).length ≤ 832 := by rw [g.next_at hin]; exact bI g.task i
   generalize hL : e.next[i]'hin = L at hp hmx hfew
   repeat' (first | exact jA | refine AP ?_ | refine two ?_ ?_ | refine imp fun hc => ?_; try exact cx hc | refine all fun v_ => ?_)
   refine AG (X := Nat × Int) (fun y => [(1, .int k), (2, .val (.pointer (some ⟨bg, 0, none⟩))), (5, .int y.2), (6, .int i), (7, .int y.1)]) (fun _ => [.cells bg 51 [.d (AO e.spots), .int (nkF t 0 : Nat), .d (AX e.next), .d (AJ e.sets), .int am]]) (fun y => y.1 ≤ L.length ∧ mxF y.2 (L.drop y.1) = (nkF t (i + 1) : Nat)) (fun y => L.length - y.1) (0, (nkF t i : Nat)) ⟨Nat.zero_le _, hmx⟩ (VS.take AH ?_) ?_
   · exact leD
   rintro ⟨j, n⟩ ⟨hj, hmj⟩
   dsimp only at hj hmj ⊢
   have hLl := congrArg List.length hL
   by_cases hjl : j < L.length
   · have hpj := hp L[j] (jb hjl)
     rw [gj n L j hjl] at hmj
     have hjN : j < (e.next[i]'hin).length := by omega
     have eq : (e.next[i]'hin)[j]'hjN = L[j] := by simp only [hL]
     by_cases hc0 : n ≤ L[j]
     · rw [if_pos hc0] at hmj
       repeat' (first | exact jA | refine AP ?_ | refine two ?_ ?_ | refine imp fun hc => ?_; try exact cx hc | refine all fun v_ => ?_)
       refine ⟨(j + 1, L[j] + 1), ⟨hjl, hmj⟩, jC, VS.take AH ?_⟩
       rw [← eq]
       exact leD
     · rw [if_neg hc0] at hmj
       repeat' (first | exact jA | refine AP ?_ | refine two ?_ ?_ | refine imp fun hc => ?_; try exact cx hc | refine all fun v_ => ?_)
       refine ⟨(j + 1, n), ⟨hjl, hmj⟩, jC, VS.take AH ?_⟩
       exact leD
   obtain rfl : j = L.length := by omega
   rw [List.drop_length, mxF] at hmj
   subst hmj
   repeat' (first | exact jA | refine AP ?_ | refine two ?_ ?_ | refine imp fun hc => ?_; try exact cx hc | refine all fun v_ => ?_)
   refine ⟨i + 1, hik, by omega, VS.take AH ?_⟩
   exact leD
 obtain rfl : i = k := by omega
 repeat' (first | exact jA | refine AP ?_ | refine two ?_ ?_ | refine imp fun hc => ?_; try exact cx hc | refine all fun v_ => ?_)
 refine AI jE ?_
 ((with_reducible apply rq1); rfl; rfl)
 exact AA rfl
theorem MA (t : Tk) (e : Exp) (g : Grown t e) (am : Int) (k : Nat) (hk : k < e.spots.length) : ACr Tryz.prog GP 68 [grA ⟨e.spots, (nkF t 0 : Nat), e.next, e.sets, am⟩, .int k] (.int (rsF t k)) := by
 have hN := g.few
 have h1 := L8 t e g am k jB
 have h2 := L8 t e g am (k + 1) hk
 have hk1 : ((k + 1 : Nat) : Int) = (k : Int) + 1 := by omega
 rw [hk1] at h2
 have hr := Grown.rs t k
 have b1 := g.nk (i := k) jB
 have b2 := g.nk (i := k + 1) hk
 refine AK (ts := [4]) Tryz.f68.ntmps Tryz.func68 rfl rfl rfl (by simp [Tryz.ntmps68]) fun W I => ?_
 repeat' (first | refine ca Bd (h2) ?_ | refine ca Bd (h1) ?_ | exact jA | refine AF ?_ | refine two ?_ ?_ | refine AB fun c_ => ?_ | refine imp fun hc => ?_; try exact cx1 hc | refine all fun v_ => ?_)
 all_goals
  refine AI jE ?_
  ((with_reducible apply rq1); rfl; rfl)
  exact AA (by rw [hr])
end Go.Proofs.YtnlfhnbcdfdhgaaGreatDoor
namespace Go.Sp
open Go Go.Av
inductive Wf (K : Fo → Prop) : List Fo → Prop
 | leaf {o : Fo} (k : K o) (h : partsOf o.kind = (0, 0)) : Wf K [o]
 | one {o : Fo} {a : List Fo} (k : K o) (h : partsOf o.kind = (1, 0)) (ha : Wf K a) : Wf K (o :: a)
 | two {o : Fo} {a b : List Fo} (k : K o) (h : partsOf o.kind = (2, 0)) (ha : Wf K a) (hb : Wf K b) : Wf K (o :: (a ++ b))
section
variable {K : Fo → Prop} {l : List Fo}
theorem Wf.pos (w : Wf K l) : 0 < l.length := by cases w <;> simp
end
def pk (n many : Int) : Int := (if n < 0 then -(n + 1) else n) % many
structure Pl where
 guard : List Fo
 var : Int
 value : List Fo
 both : Bool
end Go.Sp
