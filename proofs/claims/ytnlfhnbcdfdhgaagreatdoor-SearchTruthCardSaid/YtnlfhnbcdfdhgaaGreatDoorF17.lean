/- A bundle of this claim's own texts: O1 E13 O2 E12 O3. -/
import Derived.Test.YtnlfhnbcdfdhgaaGreatDoorF2
import Derived.Test.YtnlfhnbcdfdhgaaGreatDoorF3
import Derived.Test.YtnlfhnbcdfdhgaaGreatDoorF16
set_option linter.unusedVariables false
set_option linter.unusedSimpArgs false
set_option maxRecDepth 100000
set_option maxHeartbeats 4000000
namespace Go.Proofs.YtnlfhnbcdfdhgaaGreatDoor
open Go Go.Av Go.Sp
theorem Bv : Cal Tryz.prog 179 := Cal.of Tryz.func179 (by kernel_rfl) (by kernel_rfl)
theorem Vx : Cal Tryz.prog 144 := Cal.of Tryz.func144 (by kernel_rfl) (by kernel_rfl)
theorem J0 : Cal Tryz.prog 142 := Cal.of Tryz.func142 (by kernel_rfl) (by kernel_rfl)
theorem TN (G : List (Nat × List D)) (xs : List Int) : AC Tryz.prog G 179 [.d (AK xs)] [] fun r h => ∃ q : Sl, r = .ret (.val q.v) ∧ h = [AH q.v 3 1 Aa xs] := by
 refine AJ (ts := [2]) Tryz.f179.ntmps Tryz.func179 rfl rfl rfl (by simp [Tryz.ntmps179]) fun W I => ?_
 refine DB (t := 0) rfl fun hl => ?_
 repeat' (first
  | ((with_reducible apply Tr); (focus rfl); (focus rfl); (focus rfl); (focus rfl))
  | ((with_reducible apply (LD Aa)); (focus rfl); (focus (with_reducible exact ElC.h)); (focus rfl))
  | exact True.intro | refine AP ?_ | refine two ?_ ?_
  | (refine imp fun hc => ?_) <;> try exact cx hc
  | refine all fun v_ => ?_)
 · subst hc
   refine AN (VS.nilrow 3 1) ?_
   ((with_reducible apply rq1); rfl; rfl)
   exact ⟨Sl.nil, rfl, rfl⟩
 · refine A6 ?_
   ((with_reducible apply rq1); rfl; rfl)
   exact ⟨v_, rfl, rfl⟩
end Go.Proofs.YtnlfhnbcdfdhgaaGreatDoor
namespace Go.Av
open Go
section
variable {k : Kx} {Q : Exit → Env → H → Prop} {ρ : Env} {h : H} {ops : Array Oper} {l : List Oper} {d : Nat} {ty : TypeId} {pos : String} {after : Array Edge}
theorem jmk0 {α : Type} (f : α → List D) {T E : TypeId} {x y : Operand} {n : Nat} {m : Int} {z : Value} {eb : Nat} (hx : evO ρ x = some (.int 0)) (hy : evO ρ y = some (.int m)) (hmn : m = (n : Int)) (hT : k.P.underlying T = some (.slice E)) (hE : El k.P E z 1 eb) (hz1 : z.oneCell' = true)
 (hb : n * eb ≤ 140737488355328) (hm : n ≤ 140737488355328) (hd : Nat.blt d k.n = true)
 (hj : All fun q : Sl => JL k ops l Q ((d, .val q.v) :: ρ) (AH q.v E 1 f [] :: h)) : JL k ops (⟨some d, .makeSlice T x y, ty, pos, after, none⟩ :: l) Q ρ h := by
 subst hmn
 obtain ⟨i, hi, hz0, hz2, hz3⟩ := hE.get
 refine D3 rfl (fun t ht => by cases ht; exact blt hd) fun I a w h1 h2 => ?_
 have e1 := AL (h2.ev x) (AA hx)
 have e2 := AL (h2.ev y) (AA hy)
 have hbi : (i.bytes : Int) * (n : Int) ≤ 281474976710656 := by
  rw [hz3]
  have h : ((eb * n : Nat) : Int) ≤ 281474976710656 := by rw [Nat.mul_comm]; omega
  rwa [Int.natCast_mul] at h
 have hrun := run_make (P := k.P) w T E i z hT hi hz0 .i64 .i64 0 (n : Int) (Int.le_refl _) (by omega) hbi (by omega)
 simp only [Int.toNat_natCast, hz2, Nat.mul_one, Int.toNat_zero] at hrun
 have hmc : (madeCells z.cells n).toList.length = n := by simp [madeCells]
 refine ⟨.slice (some ⟨w.heap.size, 0, none⟩) 0 n, w.alloc (.cells (madeCells z.cells n) E), I, .val (Sl.v ⟨some ⟨w.heap.size, 0, none⟩, 0, n⟩), _, ?_, h1.fresh _ (AH (Sl.v ⟨some ⟨w.heap.size, 0, none⟩, 0, n⟩) E 1 f []) rfl ?_, h2.fresh h1 _, rfl, hj.get ⟨some ⟨w.heap.size, 0, none⟩, 0, n⟩⟩
 · simp [execOp, e1, e2, hrun]
 · refine ⟨[], ⟨by simp, .inr ⟨w.heap.size, n, _, by simp [Sl.v], Nat.zero_le _, heap_alloc_new _ _, by simp, by unfold maxLen; omega, ?_, ?_⟩⟩, ?_⟩
   · simpa using hmc
   · simp
   · trivial
end
end Go.Av
namespace Go.Sp
open Go Go.Av
theorem Ux (ls : List (List Int)) (i : Nat) (h : i < ls.length) : (ls.take (i + 1)).flatten.length = (ls.take i).flatten.length + ls[i].length := by
 rw [CZ _ _ h, List.length_append]
end Go.Sp
namespace Go.Proofs.YtnlfhnbcdfdhgaaGreatDoor
open Go Go.Av Go.Sp
theorem PA : Cal Tryz.prog 147 := Cal.of Tryz.func147 (by kernel_rfl) (by kernel_rfl)
theorem IE : Cal Tryz.prog 183 := Cal.of Tryz.func183 (by kernel_rfl) (by kernel_rfl)
theorem HY : Cal Tryz.prog 204 := Cal.of Tryz.func204 (by kernel_rfl) (by kernel_rfl)
theorem Bg : Cal Tryz.prog 182 := Cal.of Tryz.func182 (by kernel_rfl) (by kernel_rfl)
theorem merge (G : List (Nat × List D)) (a b : List Int) (ha : a.Pairwise (· ≤ ·)) (hb : b.Pairwise (· ≤ ·)) (hl : a.length + b.length ≤ 1000000) : AC Tryz.prog G 144 [.d (AK a), .d (AK b)] [] fun r h => ∃ q : Sl, r = .ret (.val q.v) ∧ h = [AH q.v 3 1 Aa (A9 (a ++ b))] := by
 refine AJ (ts := [4]) Tryz.f144.ntmps Tryz.func144 rfl rfl rfl (by simp [Tryz.ntmps144]) fun W I => ?_
 repeat' (first
  | ((with_reducible apply (jmk0 Aa)); (focus rfl); (focus rfl); (focus exact (Int.natCast_add _ _).symm); (focus rfl); (focus (with_reducible exact ElC.h)); (focus rfl); (focus omega); (focus omega); (focus rfl))
  | exact True.intro | refine AP ?_ | refine two ?_ ?_
  | (refine imp fun hc => ?_) <;> try exact cx hc
  | refine all fun v_ => ?_)
 obtain ⟨q, rfl⟩ : ∃ x, x = v_ := ⟨v_, rfl⟩
 refine AM (X := List Int × List Int × List Int × Sl) (fun y => [(0, .d (AK y.2.1)), (1, .d (AK y.2.2.1)), (5, .val y.2.2.2.v)]) (fun y => [AH y.2.2.2.v 3 1 Aa y.1]) (fun y => Iv a b y.1 y.2.1 y.2.2.1) (fun y => y.2.1.length + y.2.2.1.length) ([], a, b, q) (Iv.start ha hb) (VS.take (by exact AD) ?_) ?_
 · exact leD
 clear q
 rintro ⟨o, x, y, q⟩ hI
 dsimp only at hI ⊢
 have hil := hI.len
 cases x with
 | nil =>
   have lx : ([] : List Int).length = 0 := rfl
   have hd := hI.done (.inl rfl)
   repeat' (first
    | exact True.intro | refine AP ?_ | refine two ?_ ?_
    | (refine imp fun hc => ?_) <;> try exact cx hc
    | refine all fun v_ => ?_)
   refine AN (VS.take (hc := [AH v_.v 3 1 Aa (A9 (a ++ b))]) (by rw [← hd]; exact AD) (Env.le_refl _)) ?_
   ((with_reducible apply rq1); rfl; rfl)
   exact ⟨v_, rfl, rfl⟩
 | cons u x =>
   have lx : (u :: x).length = x.length + 1 := rfl
   cases y with
   | nil =>
     have ly : ([] : List Int).length = 0 := rfl
     have hd := hI.done (.inr rfl)
     repeat' (first
      | exact True.intro | refine AP ?_ | refine two ?_ ?_
      | (refine imp fun hc => ?_) <;> try exact cx hc
      | refine all fun v_ => ?_)
     refine AN (VS.take (hc := [AH v_.v 3 1 Aa (A9 (a ++ b))]) (by rw [← hd]; exact AD) (Env.le_refl _)) ?_
     ((with_reducible apply rq1); rfl; rfl)
     exact ⟨v_, rfl, rfl⟩
   | cons v y =>
     have ly : (v :: y).length = y.length + 1 := rfl
     by_cases huv : u ≤ v
     · have hn : ¬ (v :: y)[nat_lit 0]'(Nat.succ_pos _) < (u :: x)[nat_lit 0]'(Nat.succ_pos _) := fun (h : v < u) => by omega
       have eo : o ++ [(u :: x)[nat_lit 0]'(Nat.succ_pos _)] = o ++ [u] := rfl
       repeat' (first
        | exact True.intro | refine AG ?_ | refine two ?_ ?_ | refine AF fun c_ => ?_
        | (refine imp fun hc => ?_) <;> try exact cx1 hc
        | refine all fun v_ => ?_)
       refine ⟨(o ++ [u], x, v :: y, v_), hI.step huv, by dsimp only; omega, VS.take (by dsimp only; rw [eo]; exact AD) ?_⟩
       exact leD
     · have hn : (v :: y)[nat_lit 0]'(Nat.succ_pos _) < (u :: x)[nat_lit 0]'(Nat.succ_pos _) := show v < u by omega
       have eo : o ++ [(v :: y)[nat_lit 0]'(Nat.succ_pos _)] = o ++ [v] := rfl
       repeat' (first
        | exact True.intro | refine AG ?_ | refine two ?_ ?_ | refine AF fun c_ => ?_
        | (refine imp fun hc => ?_) <;> try exact cx1 hc
        | refine all fun v_ => ?_)
       refine ⟨(o ++ [v], y, u :: x, v_), hI.swap.step (by omega), by dsimp only; omega, VS.take (by dsimp only; rw [eo]; exact AD) ?_⟩
       exact leD
theorem YS (G : List (Nat × List D)) (s : Sto) (hl : s.loose.length ≤ 1000000) (hr : s.runs.flatten.length ≤ 1000000) : ACr Tryz.prog G 142 [stA s] (.int ((BR s).length : Nat)) := by
 rw [Hg]
 refine AC.factI (f := BP) (xs := s.runs) (.agg (.there .here)) fun hlr => ?_
 refine AJ (ts := [2]) Tryz.f142.ntmps Tryz.func142 rfl rfl rfl (by simp [Tryz.ntmps142]) fun W I => ?_
 repeat' (first
  | exact True.intro | refine AG ?_ | refine two ?_ ?_ | refine AF fun c_ => ?_
  | (refine imp fun hc => ?_) <;> try exact cx1 hc
  | refine all fun v_ => ?_)
 refine AM (X := Nat) (fun i => [(3, .int ((s.loose.length + (s.runs.take i).flatten.length : Nat) : Int)), (10, .d (Ah s.runs)), (11, .int s.runs.length), (12, .int i)]) (fun _ => []) (fun i => i ≤ s.runs.length) (fun i => s.runs.length - i) 0 (Nat.zero_le _) (VS.trans (VS.drop (List.nil_sublist _)) (VS.of_le ?_)) ?_
 · simp only [List.take_zero, List.flatten_nil, List.length_nil, Nat.add_zero]
   exact leD
 intro i hi
 by_cases hil : i < s.runs.length
 · have h1 := Ux s.runs i hil
   have h2 := Tf s.runs (i + 1)
   have e1 : ((s.loose.length + (s.runs.take (i + 1)).flatten.length : Nat) : Int) = ((s.loose.length + (s.runs.take i).flatten.length : Nat) : Int) + s.runs[i].length := by rw [h1]; omega
   repeat' (first
    | exact True.intro | refine AG ?_ | refine two ?_ ?_ | refine AF fun c_ => ?_
    | (refine imp fun hc => ?_) <;> try exact cx1 hc
    | refine all fun v_ => ?_)
   refine ⟨i + 1, by omega, by omega, VS.of_le ?_⟩
   rw [e1]
   exact leD
 obtain rfl : i = s.runs.length := by omega
 rw [List.take_length]
 repeat' (first
  | exact True.intro | refine AG ?_ | refine two ?_ ?_ | refine AF fun c_ => ?_
  | (refine imp fun hc => ?_) <;> try exact cx1 hc
  | refine all fun v_ => ?_)
 refine A6 ?_
 ((with_reducible apply rq1); rfl; rfl)
 exact AB rfl
theorem key (G : List (Nat × List D)) (n : Int) : ACr Tryz.prog G 147 [.int n] (.bool (decide (EU n))) := by
 refine AJ (ts := [2]) Tryz.f147.ntmps Tryz.func147 rfl rfl rfl (by simp [Tryz.ntmps147]) fun W I => ?_
 unfold EU
 by_cases h0 : 0 ≤ n
 · repeat' (first
    | exact True.intro | refine AG ?_ | refine two ?_ ?_ | refine AF fun c_ => ?_
    | (refine imp fun hc => ?_) <;> try exact cx1 hc
    | refine all fun v_ => ?_)
   all_goals
    refine A6 ?_
    ((with_reducible apply rq1); rfl; rfl)
    refine AB (congrArg AV.bool ?_)
    (first | rfl | (refine decide_eq_decide.2 ?_; omega) | (refine (decide_eq_true ?_).symm; omega) | (refine (decide_eq_false ?_).symm; omega) | (refine decide_eq_true ?_; omega) | (refine decide_eq_false ?_; omega))
 · repeat' (first
    | exact True.intro | refine AG ?_ | refine two ?_ ?_ | refine AF fun c_ => ?_
    | (refine imp fun hc => ?_) <;> try exact cx1 hc
    | refine all fun v_ => ?_)
   all_goals
    refine A6 ?_
    ((with_reducible apply rq1); rfl; rfl)
    refine AB (congrArg AV.bool ?_)
    (first | rfl | (refine decide_eq_decide.2 ?_; omega) | (refine (decide_eq_true ?_).symm; omega) | (refine (decide_eq_false ?_).symm; omega) | (refine decide_eq_true ?_; omega) | (refine decide_eq_false ?_; omega))
end Go.Proofs.YtnlfhnbcdfdhgaaGreatDoor
namespace Go.Av
open Go
section
variable {k : Kx} {Q : Exit → Env → H → Prop} {ρ : Env} {h : H} {ops : Array Oper} {l : List Oper} {d : Nat} {ty : TypeId} {pos : String} {after : Array Edge}
theorem H9 {f : FuncId} {xs : Array Operand} {ats : Array TypeId} {es args : List AV} {v : Value} (hxs : FN ρ xs.toList = some es) (hcal : Cal k.P f) (hac : ACr k.P k.c.G f args (.val v)) (hb : PR h es args) (hd : Nat.blt d k.n = true)
 (hj : JL k ops l Q ((d, .val v) :: ρ) h) : JL k ops (⟨some d, .call { callee := .value (.func f), args := xs, argTypes := ats }, ty, pos, after, none⟩ :: l) Q ρ h :=
 jbor (caps := #[]) rfl hxs hcal hac (by simpa using hb) hd hj
end
end Go.Av
namespace Go.Sp
open Go Go.Av
def KW : List Int → Nat → Int
 | [], _ => -1
 | n :: l, i => if EU n then KW l (i + 1) else i
theorem aW (l : List Int) (i : Nat) (h : i < l.length) : KW (l.drop i) i = if EU l[i] then KW (l.drop (i + 1)) (i + 1) else (i : Int) := by
 rw [List.drop_eq_getElem_cons h, KW]
theorem XZ (l : List Int) (i : Nat) (h : l.length ≤ i) : KW (l.drop i) i = -1 := by
 rw [List.drop_of_length_le h, KW]
theorem TZ : ∀ (l : List Int) (i : Nat), 0 ≤ KW l i ↔ ¬ ∀ k ∈ l, EU k
 | [], i => by simp [KW]
 | n :: l, i => by
   rw [KW]
   by_cases h : EU n
   · rw [if_pos h, TZ l (i + 1)]
     exact ⟨fun k a => k fun m hm => a m (List.mem_cons_of_mem _ hm), fun k a => k fun m hm => by
      rcases List.mem_cons.1 hm with rfl | hm
      · exact h
      · exact a m hm⟩
   · rw [if_neg h]
     exact ⟨fun _ a => h (a n List.mem_cons_self), fun _ => by omega⟩
theorem K8 : ∀ ls : List (List Int), (∀ r ∈ ls, r ≠ []) → ls.length ≤ ls.flatten.length
 | [], _ => by simp
 | r :: ls, h => by
   have := K8 ls fun x hx => h x (List.mem_cons_of_mem _ hx)
   have := List.length_pos_iff.2 (h r List.mem_cons_self)
   simp only [List.length_cons, List.flatten_cons, List.length_append]; omega
end Go.Sp
namespace Go.Proofs.YtnlfhnbcdfdhgaaGreatDoor
open Go Go.Av Go.Sp
theorem Gz : Cal Tryz.prog 146 := Cal.of Tryz.func146 (by kernel_rfl) (by kernel_rfl)
theorem nkG (G : List (Nat × List D)) (n : Int) : AC Tryz.prog G 183 [.int n] [] fun r h => ∃ _ : Unit, r = .ret (.bool (!decide (EU n))) ∧ h = [] := by
 refine AJ (ts := [2]) Tryz.f183.ntmps Tryz.func183 rfl rfl rfl (by simp [Tryz.ntmps183]) fun W I => ?_
 repeat' (first
  | refine ca PA (key _ _) ?_
  | exact True.intro | refine AG ?_ | refine two ?_ ?_ | refine AF fun c_ => ?_
  | (refine imp fun hc => ?_) <;> try exact cx1 hc
  | refine all fun v_ => ?_)
 refine A6 ?_
 ((with_reducible apply rq1); rfl; rfl)
 exact ⟨(), rfl, rfl⟩
theorem LF (G : List (Nat × List D)) (l : List Int) : ACr Tryz.prog G 204 [.d (AK l), .val (.func (.func 183) #[] #[])] (.int (KW l 0)) := by
 refine AJ (ts := [4]) Tryz.f204.ntmps Tryz.func204 rfl rfl rfl (by simp [Tryz.ntmps204]) fun W I => ?_
 refine DB (t := 0) rfl fun hl => ?_
 repeat' (first
  | ((with_reducible apply Ev); (focus rfl); (focus rfl); (focus exact IE); (focus exact nkG _ _); (focus exact AW); (focus rfl); (focus exact BO))
  | exact True.intro | refine AP ?_ | refine two ?_ ?_
  | (refine imp fun hc => ?_) <;> try exact cx hc
  | refine all fun v_ => ?_)
 refine AM (X := Nat) (fun i => [(0, .d (AK l)), (1, .val (.func (.func 183) #[] #[])), (7, .int l.length), (8, .int i)]) (fun _ => []) (fun i => i ≤ l.length ∧ KW l 0 = KW (l.drop i) i) (fun i => l.length - i) 0 ⟨Nat.zero_le _, rfl⟩ (VS.of_le ?_) ?_
 · exact leD
 rintro i ⟨h1, h2⟩
 by_cases hi : i < l.length
 · rw [aW l i hi] at h2
   have F := nkG G l[i]
   by_cases hv : EU l[i]
   · rw [if_pos hv] at h2
     rw [decide_eq_true hv] at F
     repeat' (first
      | ((with_reducible apply Ev); (focus rfl); (focus rfl); (focus exact IE); (focus exact F); (focus exact AW); (focus rfl); (focus exact BO))
      | exact True.intro | refine AP ?_ | refine two ?_ ?_
      | (refine imp fun hc => ?_) <;> try exact cx hc
      | refine all fun v_ => ?_)
     refine ⟨i + 1, ⟨hi, h2⟩, by omega, VS.of_le ?_⟩
     exact leD
   · rw [if_neg hv] at h2
     rw [decide_eq_false hv] at F
     repeat' (first
      | ((with_reducible apply Ev); (focus rfl); (focus rfl); (focus exact IE); (focus exact F); (focus exact AW); (focus rfl); (focus exact BO))
      | exact True.intro | refine AP ?_ | refine two ?_ ?_
      | (refine imp fun hc => ?_) <;> try exact cx hc
      | refine all fun v_ => ?_)
     refine A6 ?_
     ((with_reducible apply rq1); rfl; rfl)
     exact AB (by rw [h2])
 rw [XZ l i (by omega)] at h2
 repeat' (first
  | exact True.intro | refine AP ?_ | refine two ?_ ?_
  | (refine imp fun hc => ?_) <;> try exact cx hc
  | refine all fun v_ => ?_)
 refine A6 ?_
 ((with_reducible apply rq1); rfl; rfl)
 exact AB (by rw [h2])
theorem Mp (G : List (Nat × List D)) (l : List Int) : ACr Tryz.prog G 182 [.d (AK l), .val (.func (.func 183) #[] #[])] (.bool (decide (¬ ∀ k ∈ l, EU k))) := by
 refine AJ (ts := [4]) Tryz.f182.ntmps Tryz.func182 rfl rfl rfl (by simp [Tryz.ntmps182]) fun W I => ?_
 repeat' (first
  | refine ca HY (LF _ _) ?_
  | exact True.intro | refine AP ?_ | refine two ?_ ?_
  | (refine imp fun hc => ?_) <;> try exact cx hc
  | refine all fun v_ => ?_)
 refine A6 ?_
 ((with_reducible apply rq1); rfl; rfl)
 exact AB (congrArg AV.bool (decide_eq_decide.2 (TZ l 0)))
theorem cI (G : List (Nat × List D)) (q : Sl) (xs : List Int) (hb : xs.length < 4611686018427387904) : AC Tryz.prog G 143 [.val q.v] [AH q.v 3 1 Aa xs] fun e h => ∃ _ : Unit, e = .ret (.tup []) ∧ h = [AH q.v 3 1 Aa (A9 xs)] :=
 (bu G q xs hb).mono fun _ _ h => ⟨(), h.1, h.2⟩
theorem Z9 (G : List (Nat × List D)) (s : Sto) : ACr Tryz.prog G 146 [stA s] (.int (PT s)) := by
 refine AC.factI (f := BP) (xs := s.runs) (.agg (.there .here)) fun hlr => ?_
 refine AC.factN (g := BP) (f := Aa) (xss := s.runs) 1 8 (fun _ => rfl) (.agg (.there .here)) fun hN => ?_
 refine AJ (ts := [2]) Tryz.f146.ntmps Tryz.func146 rfl rfl rfl (by simp [Tryz.ntmps146]) fun W I => ?_
 by_cases h7 : ¬ s.loose.length ≤ 7
 · repeat' (first
    | refine ca HY (LF _ _) ?_
    | exact True.intro | refine AG ?_ | refine two ?_ ?_ | refine AF fun c_ => ?_
    | (refine imp fun hc => ?_) <;> try exact cx1 hc
    | refine all fun v_ => ?_)
   refine AN (VS.drop (List.nil_sublist _)) ?_
   ((with_reducible apply rq1); rfl; rfl)
   exact AB (by rw [GS]; exact fun p => h7 p.loose)
 replace h7 := Decidable.not_not.1 h7
 have hC := TN G s.loose
 repeat' (first
  | refine cae Bv (hC) ?_
  | exact True.intro | refine AG ?_ | refine two ?_ ?_ | refine AF fun c_ => ?_
  | (refine imp fun hc => ?_) <;> try exact cx1 hc
  | refine all fun v_ => ?_)
 obtain ⟨q, rfl⟩ : ∃ x, x = v_ := ⟨v_, rfl⟩
 refine AM (X := Nat × Sl) (fun y => [(3, .val y.2.v), (18, .d (Ah s.runs)), (19, .int s.runs.length), (20, .int y.1)]) (fun y => [AH y.2.v 3 1 Aa (s.loose ++ (s.runs.take y.1).flatten)]) (fun y => J4 s y.1) (fun y => s.runs.length - y.1) (0, q) (J4.start h7) (VS.take (by simp only [List.take_zero, List.flatten_nil, List.append_nil]; exact AD) ?_) ?_
 · exact leD
 clear q
 rintro ⟨i, q⟩ hI
 dsimp only at hI ⊢
 have hile := hI.le
 have hfew := hI.few
 have hal : (s.loose ++ (s.runs.take i).flatten).length = s.loose.length + (s.runs.take i).flatten.length := List.length_append
 by_cases hil : i < s.runs.length
 · have hlr2 := hN s.runs[i] (List.getElem_mem hil)
   have hno1 := fun p : DK s => p.no_run hil
   have hno2 := fun p : DK s => p.no_few hil
   have hnx := hI.next hil
   by_cases hz : s.runs[i].length = 0
   · repeat' (first
      | refine cae Bv (hC) ?_
      | exact True.intro | refine AG ?_ | refine two ?_ ?_ | refine AF fun c_ => ?_
      | (refine imp fun hc => ?_) <;> try exact cx1 hc
      | refine all fun v_ => ?_)
     all_goals
      refine AN (VS.drop (List.nil_sublist _)) ?_
      ((with_reducible apply rq1); rfl; rfl)
      exact AB (by rw [GS]; exact fun p => (hno1 p).1 (List.length_eq_zero_iff.1 hz))
   by_cases hb : ¬ s.loose.length + (s.runs.take i).flatten.length + s.runs[i].length ≤ 20000
   · repeat' (first
      | refine cae Bv (hC) ?_
      | exact True.intro | refine AG ?_ | refine two ?_ ?_ | refine AF fun c_ => ?_
      | (refine imp fun hc => ?_) <;> try exact cx1 hc
      | refine all fun v_ => ?_)
     all_goals
      refine AN (VS.drop (List.nil_sublist _)) ?_
      ((with_reducible apply rq1); rfl; rfl)
      exact AB (by rw [GS]; exact fun p => hb (hno2 p))
   replace hb := Decidable.not_not.1 hb
   repeat' (first
    | refine cae Bv (hC) ?_
    | exact True.intro | refine AG ?_ | refine two ?_ ?_ | refine AF fun c_ => ?_
    | (refine imp fun hc => ?_) <;> try exact cx1 hc
    | refine all fun v_ => ?_)
   refine AM (X := Nat) (fun k => [(3, .val q.v), (5, .d (AK s.runs[i])), (18, .d (Ah s.runs)), (19, .int s.runs.length), (20, .int i), (35, .d (AK s.runs[i])), (36, .int s.runs[i].length), (37, .int k)]) (fun _ => [AH q.v 3 1 Aa (s.loose ++ (s.runs.take i).flatten)]) (fun k => k ≤ s.runs[i].length ∧ ∀ (j : Nat) (h : j + 1 < s.runs[i].length), j + 1 < k → s.runs[i][j] < s.runs[i][j + 1]) (fun k => s.runs[i].length - k) 0 ⟨Nat.zero_le _, fun j h h2 => absurd h2 (Nat.not_lt_zero _)⟩ (VS.take (by exact AD) ?_) ?_
   · exact leD
   rintro k ⟨hk, hup⟩
   by_cases hkl : k < s.runs[i].length
   · cases k with
     | zero =>
       repeat' (first
        | refine cae Bv (hC) ?_
        | exact True.intro | refine AG ?_ | refine two ?_ ?_ | refine AF fun c_ => ?_
        | (refine imp fun hc => ?_) <;> try exact cx1 hc
        | refine all fun v_ => ?_)
       refine ⟨1, ⟨hkl, fun j h h2 => by omega⟩, by omega, VS.take (by exact AD) ?_⟩
       exact leD
     | succ m =>
       have e : (((m + 1 : Nat) : Int) - 1).toNat = m := by omega
       by_cases c : s.runs[i][m + 1] ≤ s.runs[i][m]
       · have hcmp : s.runs[i][m + 1] ≤ s.runs[i][(((m + 1 : Nat) : Int) - 1).toNat]'(by omega) := by simp only [e]; exact c
         repeat' (first
          | refine cae Bv (hC) ?_
          | exact True.intro | refine AG ?_ | refine two ?_ ?_ | refine AF fun c_ => ?_
          | (refine imp fun hc => ?_) <;> try exact cx1 hc
          | refine all fun v_ => ?_)
         all_goals
          refine AN (VS.drop (List.nil_sublist _)) ?_
          ((with_reducible apply rq1); rfl; rfl)
          exact AB (by rw [GS]; exact fun p => Zg hkl c (hno1 p).2)
       · have hcmp : ¬ s.runs[i][m + 1] ≤ s.runs[i][(((m + 1 : Nat) : Int) - 1).toNat]'(by omega) := by simp only [e]; exact c
         repeat' (first
          | refine cae Bv (hC) ?_
          | exact True.intro | refine AG ?_ | refine two ?_ ?_ | refine AF fun c_ => ?_
          | (refine imp fun hc => ?_) <;> try exact cx1 hc
          | refine all fun v_ => ?_)
         refine ⟨m + 1 + 1, ⟨hkl, fun j h h2 => ?_⟩, by omega, VS.take (by exact AD) ?_⟩
         · by_cases ej : j = m
           · subst ej; omega
           · exact hup j h (by omega)
         · exact leD
   have hrise : s.runs[i].Pairwise (· < ·) := Z0 fun j h => hup j h (by omega)
   have et : s.loose ++ (s.runs.take i).flatten ++ s.runs[i] = s.loose ++ (s.runs.take (i + 1)).flatten := by rw [CZ _ _ hil, List.append_assoc]
   repeat' (first
    | refine cae Bv (hC) ?_
    | exact True.intro | refine AG ?_ | refine two ?_ ?_ | refine AF fun c_ => ?_
    | (refine imp fun hc => ?_) <;> try exact cx1 hc
    | refine all fun v_ => ?_)
   refine ⟨(i + 1, v_), hnx (fun e => hz (by rw [e]; rfl)) hrise hb, by dsimp only; omega, VS.take (by dsimp only; rw [← et]; exact AD) ?_⟩
   exact leD
 obtain rfl : i = s.runs.length := by omega
 rw [List.take_length] at hfew hal ⊢
 have hperm := keys_perm s
 have hkey : (∀ k ∈ s.loose ++ s.runs.flatten, EU k) ↔ ∀ k ∈ BR s, EU k := ⟨fun h k hk => h k (hperm.mem_iff.2 hk), fun h k hk => h k (hperm.mem_iff.1 hk)⟩
 have hF := Mp G (s.loose ++ s.runs.flatten)
 have hS := cI G q (s.loose ++ s.runs.flatten) (by omega)
 have hsl : (A9 (s.loose ++ s.runs.flatten)).length = s.loose.length + s.runs.flatten.length := by rw [Ed]; exact hal
 have hnd : (BR s).Nodup ↔ (A9 (s.loose ++ s.runs.flatten)).Nodup := ((Cn _).trans hperm).nodup_iff.symm
 have hup := HF (s.loose ++ s.runs.flatten)
 by_cases hk : ∀ k ∈ s.loose ++ s.runs.flatten, EU k
 · rw [decide_eq_false (fun h => h hk)] at hF
   generalize A9 (s.loose ++ s.runs.flatten) = L at hS hsl hnd hup
   repeat' (first
    | refine H9 rfl Bg hF ⟨DZ (E := 3) 8 (by exact Ab) rfl (fun _ => rfl) (by omega), GD _ _, trivial⟩ rfl ?_
    | refine cag DJ (hS) ?_
    | exact True.intro | refine AG ?_ | refine two ?_ ?_ | refine AF fun c_ => ?_
    | (refine imp fun hc => ?_) <;> try exact cx1 hc
    | refine all fun v_ => ?_)
   refine AM (X := Nat) (fun k => [(3, .val q.v), (62, .val q.v), (63, .int L.length), (64, .int k)]) (fun _ => [AH q.v 3 1 Aa L]) (fun k => k ≤ L.length ∧ ∀ (j : Nat) (h : j + 1 < L.length), j + 1 < k → L[j] ≠ L[j + 1]) (fun k => L.length - k) 0 ⟨Nat.zero_le _, fun j h h2 => absurd h2 (Nat.not_lt_zero _)⟩ (VS.take (by exact AD) ?_) ?_
   · exact leD
   rintro k ⟨hkl0, hun⟩
   by_cases hkl : k < L.length
   · cases k with
     | zero =>
       repeat' (first
        | refine H9 rfl Bg hF ⟨DZ (E := 3) 8 (by exact Ab) rfl (fun _ => rfl) (by omega), GD _ _, trivial⟩ rfl ?_
        | refine cag DJ (hS) ?_
        | exact True.intro | refine AG ?_ | refine two ?_ ?_ | refine AF fun c_ => ?_
        | (refine imp fun hc => ?_) <;> try exact cx1 hc
        | refine all fun v_ => ?_)
       refine ⟨1, ⟨hkl, fun j h h2 => by omega⟩, by omega, VS.take (by exact AD) ?_⟩
       exact leD
     | succ m =>
       have e : (((m + 1 : Nat) : Int) - 1).toNat = m := by omega
       by_cases c : L[m] = L[m + 1]
       · have hcmp : L[(((m + 1 : Nat) : Int) - 1).toNat]'(by omega) = L[m + 1] := by simp only [e]; exact c
         repeat' (first
          | refine H9 rfl Bg hF ⟨DZ (E := 3) 8 (by exact Ab) rfl (fun _ => rfl) (by omega), GD _ _, trivial⟩ rfl ?_
          | refine cag DJ (hS) ?_
          | exact True.intro | refine AG ?_ | refine two ?_ ?_ | refine AF fun c_ => ?_
          | (refine imp fun hc => ?_) <;> try exact cx1 hc
          | refine all fun v_ => ?_)
         all_goals
          refine AN (VS.drop (List.nil_sublist _)) ?_
          ((with_reducible apply rq1); rfl; rfl)
          exact AB (by rw [GS]; exact fun p => Ur hkl c (hnd.1 p.nodup))
       · have hcmp : ¬ L[(((m + 1 : Nat) : Int) - 1).toNat]'(by omega) = L[m + 1] := by simp only [e]; exact c
         repeat' (first
          | refine H9 rfl Bg hF ⟨DZ (E := 3) 8 (by exact Ab) rfl (fun _ => rfl) (by omega), GD _ _, trivial⟩ rfl ?_
          | refine cag DJ (hS) ?_
          | exact True.intro | refine AG ?_ | refine two ?_ ?_ | refine AF fun c_ => ?_
          | (refine imp fun hc => ?_) <;> try exact cx1 hc
          | refine all fun v_ => ?_)
         refine ⟨m + 1 + 1, ⟨hkl, fun j h h2 => ?_⟩, by omega, VS.take (by exact AD) ?_⟩
         · by_cases ej : j = m
           · subst ej; exact c
           · exact hun j h (by omega)
         · exact leD
   have hP : DK s := DK.of hI h7 (hkey.1 hk) (hnd.2 (ZJ (X9 hup fun j h => hun j h (by omega))))
   repeat' (first
    | refine H9 rfl Bg hF ⟨DZ (E := 3) 8 (by exact Ab) rfl (fun _ => rfl) (by omega), GD _ _, trivial⟩ rfl ?_
    | refine cag DJ (hS) ?_
    | exact True.intro | refine AG ?_ | refine two ?_ ?_ | refine AF fun c_ => ?_
    | (refine imp fun hc => ?_) <;> try exact cx1 hc
    | refine all fun v_ => ?_)
   refine AN (VS.drop (List.nil_sublist _)) ?_
   ((with_reducible apply rq1); rfl; rfl)
   exact AB (by rw [Ob hP])
 · rw [decide_eq_true hk] at hF
   repeat' (first
    | refine H9 rfl Bg hF ⟨DZ (E := 3) 8 (by exact Ab) rfl (fun _ => rfl) (by omega), GD _ _, trivial⟩ rfl ?_
    | refine cag DJ (hS) ?_
    | exact True.intro | refine AG ?_ | refine two ?_ ?_ | refine AF fun c_ => ?_
    | (refine imp fun hc => ?_) <;> try exact cx1 hc
    | refine all fun v_ => ?_)
   refine AN (VS.drop (List.nil_sublist _)) ?_
   ((with_reducible apply rq1); rfl; rfl)
   exact AB (by rw [GS]; exact fun p => hk (hkey.2 p.range))
end Go.Proofs.YtnlfhnbcdfdhgaaGreatDoor
