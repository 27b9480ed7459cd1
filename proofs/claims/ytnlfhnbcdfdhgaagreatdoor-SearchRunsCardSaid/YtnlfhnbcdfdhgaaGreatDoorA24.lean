/- Own texts. -/
import Derived.Test.YtnlfhnbcdfdhgaaGreatDoorA23
set_option linter.unusedVariables false
set_option linter.unusedSimpArgs false
set_option maxRecDepth 100000
set_option maxHeartbeats 4000000
namespace Go.Av
open Go Go.Instr
section
variable {P : Program} {G : List (Nat × List D)} {ρ : Env} {h : H} {dst : Option Tmp} {ty : TypeId} {pos : String} {after : Array Edge} {g : Option (Nat × Bool)}
theorem JA {S T : TypeId} {x : Operand} {n : Int} (hS : (P.underlying S).isSome = true) (hT : P.underlying T = some (.int .u64)) (hx : evO ρ x = some (.int n)) (h0 : 0 ≤ n) (h1 : n < 18446744073709551616) : Pure P G ⟨dst, .convert S T x, ty, pos, after, g⟩ ρ h (.val (.int .u64 n)) := by
 have := FR (P := P) (G := G) (h := h) (dst := dst) (ty := ty) (pos := pos) (after := after) (g := g) hS hT (AD hx)
 have e : IntKind.u64.wrap n = n := by rw [IntKind.wrap_u64]; omega
 rwa [e] at this
theorem FZ {S T : TypeId} {x : Operand} {n : Int} (hS : (P.underlying S).isSome = true) (hT : P.underlying T = some (.int .i64)) (hx : evO ρ x = some (.val (.int .u64 n))) (hb : Ao n) : Pure P G ⟨dst, .convert S T x, ty, pos, after, g⟩ ρ h (.int n) := by
 have := FR (P := P) (G := G) (h := h) (dst := dst) (ty := ty) (pos := pos) (after := after) (g := g) hS hT (AD hx)
 rwa [FU hb] at this
theorem Fh {T T' : TypeId} {x : Operand} {m : Int} (hx : evO ρ x = some (.val (.int .u64 m))) : Pure P G ⟨dst, .binOp .shr T x (.const (.int .u64 1)) T', ty, pos, after, g⟩ ρ h (.val (.int .u64 (m / 2))) := by
 refine Bi (v := .int .u64 1) (AD hx) rfl (fun _ => by rw [eqGuard_shr]; rfl) fun _ => ?_
 rw [binOp_shr, shift_shr .u64 .u64 m 1 (by decide) (by decide)]; rfl
end
end Go.Av
namespace Go.Proofs.YtnlfhnbcdfdhgaaGreatDoor
open Go Go.Av Go.Sp
theorem Fi : Cal Tryz.prog 185 := Cal.of Tryz.func185 (by kernel_rfl) (by kernel_rfl)
theorem CE : Cal Tryz.prog 186 := Cal.of Tryz.func186 (by kernel_rfl) (by kernel_rfl)
theorem MP : Cal Tryz.prog 205 := Cal.of Tryz.func205 (by kernel_rfl) (by kernel_rfl)
theorem Gy : Cal Tryz.prog 149 := Cal.of Tryz.func149 (by kernel_rfl) (by kernel_rfl)
theorem Ew : Cal Tryz.prog 98 := Cal.of Tryz.func98 (by kernel_rfl) (by kernel_rfl)
theorem FJ (G : List (Nat × List D)) (n : Int) : ACr Tryz.prog G 186 [.int n] (.bool false) := by
 refine AK (ts := [2]) Tryz.f186.ntmps Tryz.func186 rfl rfl rfl (by simp [Tryz.ntmps186]) fun W I => ?_
 repeat' (first | exact jA | refine AF ?_ | refine two ?_ ?_ | refine AB fun c_ => ?_ | refine imp fun hc => ?_; try exact cx1 hc | refine all fun v_ => ?_)
 refine A0 ?_
 ((with_reducible apply rq1); rfl; rfl)
 exact AA (by simp)
theorem af (G : List (Nat × List D)) (n : Int) : ACr Tryz.prog G 205 [.int n] (.bool false) := by
 refine AK (ts := [2]) Tryz.f205.ntmps Tryz.func205 rfl rfl rfl (by simp [Tryz.ntmps205]) fun W I => ?_
 repeat' (first | exact jA | refine AF ?_ | refine two ?_ ?_ | refine AB fun c_ => ?_ | refine imp fun hc => ?_; try exact cx1 hc | refine all fun v_ => ?_)
 refine A0 ?_
 ((with_reducible apply rq1); rfl; rfl)
 exact AA (by simp)
theorem PF (G : List (Nat × List D)) (a b : Int) : ACr Tryz.prog G 185 [.int a, .int b] (.bool (decide (a < b))) := by
 refine AK (ts := [4]) Tryz.f185.ntmps Tryz.func185 rfl rfl rfl (by simp [Tryz.ntmps185]) fun W I => ?_
 repeat' (first | refine ca MP (af _ _) ?_ | refine caq MP (af _ _) ?_ | exact jA | refine AF ?_ | refine two ?_ ?_ | refine AB fun c_ => ?_ | refine imp fun hc => ?_; try exact cx1 hc | refine all fun v_ => ?_)
 all_goals
  refine A0 ?_
  ((with_reducible apply rq1); rfl; rfl)
  exact AA rfl
theorem ia {p q : Prop} (hp : p) (h : p → q := by
 apply cmp; (focus ((with_reducible apply jp); (focus ((with_reducible apply JA); (iterate 3 rfl); omega; omega)); rfl))
 exact fun h => h) : q := h hp
theorem ib {p q : Prop} (hp : p) (h : p → q := by
 apply cmp; (focus ((with_reducible apply jp); (focus ((with_reducible apply FZ); (iterate 3 rfl); (focus (unfold Ao; omega)))); rfl))
 exact fun h => h) : q := h hp
theorem ik {p q : Prop} (hp : p) (h : p → q := by
 apply cmp; (focus ((with_reducible apply jp); (focus ((with_reducible apply Fh); rfl)); rfl))
 exact fun h => h) : q := h hp
theorem QE (G : List (Nat × List D)) (l : List Int) (n : Int) (hs : l.Pairwise (· < ·)) : AC Tryz.prog G 149 [.d (AJ l), .int n] [] fun r h => ∃ v : Nat, r = .ret (.tup [.int v, .bool (decide (n ∈ l))]) ∧ h = [] := by
 have hs' := List.pairwise_iff_getElem.1 hs
 refine AK (ts := [4, 5]) Tryz.f149.ntmps Tryz.func149 rfl rfl rfl (by simp [Tryz.ntmps149]) fun W I => ?_
 refine Bn (t := 0) rfl fun hl => ?_
 repeat' (first | refine ia ?_ | refine ik ?_ | refine ib ?_ | refine ca Fi (PF _ _ _) ?_ | refine ca CE (FJ _ _) ?_ | refine caq CE (FJ _ _) ?_ | exact jA | refine AP ?_ | refine two ?_ ?_ | refine imp fun hc => ?_; try exact cx hc | refine all fun v_ => ?_)
 refine AG (X := Nat × Nat) (fun y => [(0, .d (AJ l)), (1, .int n), (6, .int l.length), (7, .int y.1), (8, .int y.2)]) (fun _ => []) (fun y => y.1 ≤ y.2 ∧ y.2 ≤ l.length ∧ (∀ (a : Nat) (h : a < l.length), a < y.1 → l[a] < n) ∧ ∀ (a : Nat) (h : a < l.length), y.2 ≤ a → n ≤ l[a]) (fun y => y.2 - y.1) (0, l.length) ⟨Nat.zero_le _, Nat.le_refl _, fun a h h2 => absurd h2 (Nat.not_lt_zero a), fun a h h2 => by omega⟩ (VS.of_le ?_) ?_
 · exact leD
 rintro ⟨i, j⟩ ⟨h1, h2, h3, h4⟩
 dsimp only at h1 h2 h3 h4 ⊢
 by_cases hij : i < j
 · have eh : (((i : Int) + j) / 2).toNat = (i + j) / 2 := by omega
   have hlt : (((i : Int) + j) / 2).toNat < l.length := by omega
   by_cases hc0 : l[(((i : Int) + j) / 2).toNat] < n
   · repeat' (first | refine ia ?_ | refine ik ?_ | refine ib ?_ | refine ca Fi (PF _ _ _) ?_ | refine ca CE (FJ _ _) ?_ | refine caq CE (FJ _ _) ?_ | exact jA | refine AF ?_ | refine two ?_ ?_ | refine AB fun c_ => ?_ | refine imp fun hc => ?_; try exact cx1 hc | refine all fun v_ => ?_)
     refine ⟨((((i : Int) + j) / 2).toNat + 1, j), ⟨by dsimp only; omega, h2, fun a h ha => ?_, h4⟩, jC, VS.of_le ?_⟩
     · by_cases e : a = (((i : Int) + j) / 2).toNat
       · subst e; exact hc0
       · have := hs' a _ h hlt (by dsimp only at ha; omega); omega
     · exact leD
   · repeat' (first | refine ia ?_ | refine ik ?_ | refine ib ?_ | refine ca Fi (PF _ _ _) ?_ | refine ca CE (FJ _ _) ?_ | refine caq CE (FJ _ _) ?_ | exact jA | refine AF ?_ | refine two ?_ ?_ | refine AB fun c_ => ?_ | refine imp fun hc => ?_; try exact cx1 hc | refine all fun v_ => ?_)
     refine ⟨(i, (((i : Int) + j) / 2).toNat), ⟨by dsimp only; omega, jC, h3, fun a h ha => ?_⟩, jC, VS.of_le ?_⟩
     · by_cases e : a = (((i : Int) + j) / 2).toNat
       · subst e; omega
       · have := hs' _ a hlt h (by dsimp only at ha; omega); omega
     · exact leD
 obtain rfl : j = i := by omega
 by_cases hil : j < l.length
 · by_cases he : l[j] = n
   · have hm : n ∈ l := by rw [← he]; exact jb hil
     repeat' (first | refine ia ?_ | refine ik ?_ | refine ib ?_ | refine ca Fi (PF _ _ _) ?_ | refine ca CE (FJ _ _) ?_ | refine caq CE (FJ _ _) ?_ | exact jA | refine AF ?_ | refine two ?_ ?_ | refine AB fun c_ => ?_ | refine imp fun hc => ?_; try exact cx1 hc | refine all fun v_ => ?_)
     all_goals
      refine A0 ?_
      ((with_reducible apply rq2); rfl; rfl; rfl)
      exact ⟨j, by rw [decide_eq_true hm], rfl⟩
   · have hm : n ∉ l := fun hm => by
      obtain ⟨a, ha, e⟩ := List.getElem_of_mem hm
      by_cases c : a < j
      · have := h3 a ha c; omega
      · by_cases c2 : a = j
        · subst c2; exact he e
        · have h5 := hs' j a hil ha jB
          have h6 := h4 j hil (Nat.le_refl _)
          omega
     repeat' (first | refine ia ?_ | refine ik ?_ | refine ib ?_ | refine ca Fi (PF _ _ _) ?_ | refine ca CE (FJ _ _) ?_ | refine caq CE (FJ _ _) ?_ | exact jA | refine AF ?_ | refine two ?_ ?_ | refine AB fun c_ => ?_ | refine imp fun hc => ?_; try exact cx1 hc | refine all fun v_ => ?_)
     all_goals
      refine A0 ?_
      ((with_reducible apply rq2); rfl; rfl; rfl)
      exact ⟨j, by rw [decide_eq_false hm], rfl⟩
 · have hm : n ∉ l := fun hm => by
    obtain ⟨a, ha, e⟩ := List.getElem_of_mem hm
    have := h3 a ha jB; omega
   repeat' (first | refine ia ?_ | refine ik ?_ | refine ib ?_ | refine ca Fi (PF _ _ _) ?_ | refine ca CE (FJ _ _) ?_ | refine caq CE (FJ _ _) ?_ | exact jA | refine AF ?_ | refine two ?_ ?_ | refine AB fun c_ => ?_ | refine imp fun hc => ?_; try exact cx1 hc | refine all fun v_ => ?_)
   all_goals
    refine A0 ?_
    ((with_reducible apply rq2); rfl; rfl; rfl)
    exact ⟨j, by rw [decide_eq_false hm], rfl⟩
theorem Wz (G : List (Nat × List D)) (s : Sto) (n : Int) : ACr Tryz.prog G 98 [stA s, .int n] (.tup [.bool (Gl s n).1, .int (Gl s n).2]) := by
 have hC := cQ G s
 refine AC.factI (f := BP) (xs := s.runs) (.agg (.there .here)) fun hlr => ?_
 refine AK (ts := [4, 5]) Tryz.f98.ntmps Tryz.func98 rfl rfl rfl (by simp [Tryz.ntmps98]) fun W I => ?_
 unfold Gl
 by_cases h0 : P0 s ≠ 0
 · rw [if_pos h0]
   generalize P0 s = e at hC h0
   repeat' (first | refine ca Iw (hC) ?_ | exact jA | refine AF ?_ | refine two ?_ ?_ | refine AB fun c_ => ?_ | refine imp fun hc => ?_; try exact cx1 hc | refine all fun v_ => ?_)
   refine AI jE ?_
   ((with_reducible apply rq2); rfl; rfl; rfl)
   exact AA rfl
 rw [if_neg h0]
 replace h0 := jY h0
 have hP := SU.1 h0
 rw [h0] at hC
 have hK := key G n
 have hI := XM G s.loose n
 by_cases hk : FQ n
 · rw [if_neg (fun k => k hk)]
   rw [decide_eq_true hk] at hK
   repeat' (first | refine ca Iw (hC) ?_ | refine ca QF (hK) ?_ | refine ca Ot (hI) ?_ | exact jA | refine AF ?_ | refine two ?_ ?_ | refine AB fun c_ => ?_ | refine imp fun hc => ?_; try exact cx1 hc | refine all fun v_ => ?_)
   refine AG (X := Nat) (fun i => [(1, .int n), (7, .bool (decide (n ∈ s.loose ∨ n ∈ (s.runs.take i).flatten))), (25, .d (AX s.runs)), (26, .int s.runs.length), (27, .int i)]) (fun _ => []) (fun i => i ≤ s.runs.length) (fun i => s.runs.length - i) 0 (Nat.zero_le _) (VS.trans jE (VS.of_le ?_)) ?_
   · simp only [List.take_zero, List.flatten_nil, List.not_mem_nil, or_false]
     exact leD
   intro i hi
   by_cases hil : i < s.runs.length
   · have hB := QE G s.runs[i] n (hP.no_run hil).2
     have hst : decide (n ∈ s.loose ∨ n ∈ (s.runs.take (i + 1)).flatten) = (decide (n ∈ s.loose ∨ n ∈ (s.runs.take i).flatten) || decide (n ∈ s.runs[i])) := by
      rw [DI _ _ hil, ← Bool.decide_or]
      simp only [List.mem_append, or_assoc]
     cases hb : decide (n ∈ s.loose ∨ n ∈ (s.runs.take i).flatten) with
     | true =>
       rw [hb, Bool.true_or] at hst
       repeat' (first | refine cag Gy (hB) ?_ | exact jA | refine AF ?_ | refine two ?_ ?_ | refine AB fun c_ => ?_ | refine imp fun hc => ?_; try exact cx1 hc | refine all fun v_ => ?_)
       refine ⟨i + 1, hil, by omega, VS.of_le ?_⟩
       rw [hst]
       exact leD
     | false =>
       rw [hb, Bool.false_or] at hst
       repeat' (first | refine cag Gy (hB) ?_ | exact jA | refine AF ?_ | refine two ?_ ?_ | refine AB fun c_ => ?_ | refine imp fun hc => ?_; try exact cx1 hc | refine all fun v_ => ?_)
       refine ⟨i + 1, hil, by omega, VS.of_le ?_⟩
       rw [hst]
       exact leD
   obtain rfl : i = s.runs.length := by omega
   rw [List.take_length]
   repeat' (first | exact jA | refine AF ?_ | refine two ?_ ?_ | refine AB fun c_ => ?_ | refine imp fun hc => ?_; try exact cx1 hc | refine all fun v_ => ?_)
   refine A0 ?_
   ((with_reducible apply rq2); rfl; rfl; rfl)
   refine AA ?_
   have : decide (n ∈ s.loose ∨ n ∈ s.runs.flatten) = decide (n ∈ Bw s) := decide_eq_decide.2 (by unfold Bw; rw [List.mem_append]; exact or_comm)
   rw [this]
 · rw [if_pos hk]
   rw [decide_eq_false hk] at hK
   repeat' (first | refine ca Iw (hC) ?_ | refine ca QF (hK) ?_ | exact jA | refine AF ?_ | refine two ?_ ?_ | refine AB fun c_ => ?_ | refine imp fun hc => ?_; try exact cx1 hc | refine all fun v_ => ?_)
   refine AI jE ?_
   ((with_reducible apply rq2); rfl; rfl; rfl)
   exact AA rfl
open Go Go.Av
theorem WT : Fld Tryz.prog 104 0 0 := by unfold Fld; kernel_rfl
instance : FdC Tryz.prog 104 0 0 := ⟨WT⟩
theorem Wg : Fld Tryz.prog 104 1 5 := by unfold Fld; kernel_rfl
instance : FdC Tryz.prog 104 1 5 := ⟨Wg⟩
theorem Xz : Bls Tryz.prog 104 [.slice none 0 0, .int .i64 0, .slice none 0 0, .slice none 0 0, .int .i64 0, .map none] [(0, 5), (5, 1)] := by unfold Bls; kernel_rfl
instance : Jv Tryz.prog 104 [.slice none 0 0, .int .i64 0, .slice none 0 0, .slice none 0 0, .int .i64 0, .map none] [(0, 5), (5, 1)] := ⟨Xz⟩
theorem UI : Fld Tryz.prog 82 0 0 := by unfold Fld; kernel_rfl
instance : FdC Tryz.prog 82 0 0 := ⟨UI⟩
theorem Ue : Fld Tryz.prog 82 1 4 := by unfold Fld; kernel_rfl
instance : FdC Tryz.prog 82 1 4 := ⟨Ue⟩
theorem VI : Fld Tryz.prog 82 2 5 := by unfold Fld; kernel_rfl
instance : FdC Tryz.prog 82 2 5 := ⟨VI⟩
theorem VL : Fld Tryz.prog 82 3 6 := by unfold Fld; kernel_rfl
instance : FdC Tryz.prog 82 3 6 := ⟨VL⟩
theorem UT : Fld Tryz.prog 82 4 8 := by unfold Fld; kernel_rfl
instance : FdC Tryz.prog 82 4 8 := ⟨UT⟩
theorem Ui : Fld Tryz.prog 82 5 9 := by unfold Fld; kernel_rfl
instance : FdC Tryz.prog 82 5 9 := ⟨Ui⟩
theorem VJ : Fld Tryz.prog 82 6 10 := by unfold Fld; kernel_rfl
instance : FdC Tryz.prog 82 6 10 := ⟨VJ⟩
theorem VF : Fld Tryz.prog 82 7 12 := by unfold Fld; kernel_rfl
instance : FdC Tryz.prog 82 7 12 := ⟨VF⟩
theorem Ty : Bls Tryz.prog 82 [.slice none 0 0, .slice none 0 0, .slice none 0 0, .slice none 0 0, .bool false, .slice none 0 0, .slice none 0 0, .slice none 0 0, .int .i64 0, .int .i64 0, .slice none 0 0, .int .i64 0, .bool false, .int .i64 0, .int .i64 0, .int .i64 0, .int .i64 0, .bool false, .bool false] [(0, 4), (4, 1), (5, 1), (6, 2), (8, 1), (9, 1), (10, 2), (12, 7)] := by unfold Bls; kernel_rfl
instance : Jv Tryz.prog 82 [.slice none 0 0, .slice none 0 0, .slice none 0 0, .slice none 0 0, .bool false, .slice none 0 0, .slice none 0 0, .slice none 0 0, .int .i64 0, .int .i64 0, .slice none 0 0, .int .i64 0, .bool false, .int .i64 0, .int .i64 0, .int .i64 0, .int .i64 0, .bool false, .bool false] [(0, 4), (4, 1), (5, 1), (6, 2), (8, 1), (9, 1), (10, 2), (12, 7)] := ⟨Ty⟩
theorem Ql : El Tryz.prog 88 (.agg #[.bool false, .int .i64 0, .int .i64 0, .int .i64 0, .int .i64 0, .int .i64 0]) 6 48 := by unfold El; kernel_rfl
instance : ElC Tryz.prog 88 (.agg #[.bool false, .int .i64 0, .int .i64 0, .int .i64 0, .int .i64 0, .int .i64 0]) 6 48 := ⟨Ql⟩
theorem OQ : Fld Tryz.prog 88 0 0 := by unfold Fld; kernel_rfl
instance : FdC Tryz.prog 88 0 0 := ⟨OQ⟩
theorem Oe : Fld Tryz.prog 88 1 1 := by unfold Fld; kernel_rfl
instance : FdC Tryz.prog 88 1 1 := ⟨Oe⟩
theorem OO : Fld Tryz.prog 88 2 2 := by unfold Fld; kernel_rfl
instance : FdC Tryz.prog 88 2 2 := ⟨OO⟩
theorem Oa : Fld Tryz.prog 88 3 3 := by unfold Fld; kernel_rfl
instance : FdC Tryz.prog 88 3 3 := ⟨Oa⟩
theorem OS : Fld Tryz.prog 88 4 4 := by unfold Fld; kernel_rfl
instance : FdC Tryz.prog 88 4 4 := ⟨OS⟩
theorem OM : Fld Tryz.prog 88 5 5 := by unfold Fld; kernel_rfl
instance : FdC Tryz.prog 88 5 5 := ⟨OM⟩
theorem OW : Bls Tryz.prog 88 [.bool false, .int .i64 0, .int .i64 0, .int .i64 0, .int .i64 0, .int .i64 0] [(0, 1), (1, 1), (2, 1), (3, 1), (4, 1), (5, 1)] := by unfold Bls; kernel_rfl
instance : Jv Tryz.prog 88 [.bool false, .int .i64 0, .int .i64 0, .int .i64 0, .int .i64 0, .int .i64 0] [(0, 1), (1, 1), (2, 1), (3, 1), (4, 1), (5, 1)] := ⟨OW⟩
theorem Er : Cal Tryz.prog 151 := Cal.of Tryz.func151 (by kernel_rfl) (by kernel_rfl)
theorem Ps : Cal Tryz.prog 16 := Cal.of Tryz.func16 (by kernel_rfl) (by kernel_rfl)
theorem Mm : Cal Tryz.prog 28 := Cal.of Tryz.func28 (by kernel_rfl) (by kernel_rfl)
theorem Il : Cal Tryz.prog 34 := Cal.of Tryz.func34 (by kernel_rfl) (by kernel_rfl)
theorem eC (G : List (Nat × List D)) (a : List Fo) (ha : a.length * 16 ≤ 140737488355328) : ACr Tryz.prog G 16 [.d (AO a)] (.d (AO a)) := by
 refine AK (ts := [2]) 5 Tryz.func16 rfl rfl rfl (by simp) fun W I => ?_
 repeat' (first | exact jA | refine stp ?_ | refine two ?_ ?_ | refine imp fun hc => ?_; try exact cx hc | refine all fun v_ => ?_)
 refine A0 ?_
 ((with_reducible apply rq1); rfl; rfl)
 exact AA rfl
theorem Sum (G : List (Nat × List D)) (l : List UInt8) : ACr Tryz.prog G 151 [.d (CT l)] (.int (sumOf l)) := by
 refine Cz (ts := [2]) 20 Tryz.func151 rfl rfl rfl (by simp) fun W I => ?_
 refine Bn (t := 0) rfl fun hl => ?_
 repeat' (first | exact jA | refine stp ?_ | refine two ?_ ?_ | refine imp fun hc => ?_; try exact cx hc | refine all fun v_ => ?_)
 refine Dn (X := Nat × Int) (fun y => [(3, .int y.2), (6, .d (CT l)), (7, .int l.length), (8, .int y.1)]) (fun _ => []) (fun y => y.1 ≤ l.length ∧ 0 ≤ y.2 ∧ y.2 < 2147483629 ∧ sumOf l = TQ (l.drop y.1) y.2) (fun y => l.length - y.1) (0, 1) ⟨Nat.zero_le _, by decide, by decide, rfl⟩ ?_ rfl ?_
 · exact leD
 rintro ⟨i, s⟩ ⟨k1, k2, k3, k4⟩
 dsimp only at k1 k2 k3 k4 ⊢
 by_cases hi : i < l.length
 · have hb := (l[i]).toNat_lt
   rw [bu l i hi] at k4
   repeat' (first | exact jA | refine stp ?_ | refine two ?_ ?_ | refine imp fun hc => ?_; try exact cx hc | refine all fun v_ => ?_)
   refine ⟨(i + 1, _), ⟨by dsimp only; omega, ?_, ?_, k4⟩, jC, ?_, rfl⟩
   · exact Int.emod_nonneg _ (by decide)
   · exact Int.emod_lt_of_pos _ (by decide)
   · exact leD
 · rw [ZT l i jB] at k4
   repeat' (first | exact jA | refine stp ?_ | refine two ?_ ?_ | refine imp fun hc => ?_; try exact cx hc | refine all fun v_ => ?_)
   ((with_reducible apply rq1); rfl; rfl)
   exact AA (congrArg AV.int k4.symm)
theorem au (G : List (Nat × List D)) (l : List Fo) : ACr Tryz.prog G 28 [.d (AO l)] (.int (GH l)) := by
 refine AK (ts := [2]) Tryz.f28.ntmps Tryz.func28 rfl rfl rfl (by simp [Tryz.ntmps28]) fun W I => ?_
 refine Bn (t := 0) rfl fun hl => ?_
 repeat' (first | exact jA | refine AP ?_ | refine two ?_ ?_ | refine imp fun hc => ?_; try exact cx hc | refine all fun v_ => ?_)
 · refine A0 ?_
   ((with_reducible apply rq1); rfl; rfl)
   refine AA (congrArg AV.int ?_)
   rw [GH, if_pos jB]
 have hs : GH l = NF l := by rw [GH, if_neg jB]
 refine AG (X := Nat) (fun i => [(8, .d (AO l)), (9, .int l.length), (10, .int i)]) (fun _ => []) (fun i => i ≤ l.length ∧ GH l = NF (l.drop i)) (fun i => l.length - i) 0 ⟨Nat.zero_le _, hs⟩ (VS.of_le ?_) ?_
 · exact leD
 rintro i ⟨k1, k2⟩
 by_cases hi : i < l.length
 · rw [Vf l i hi] at k2
   repeat' (first | exact jA | refine AP ?_ | refine two ?_ ?_ | refine imp fun hc => ?_; try exact cx hc | refine all fun v_ => ?_)
   all_goals first
    | (refine AI jE ?_
       ((with_reducible apply rq1); rfl; rfl)
       refine AA (congrArg AV.int ?_)
       rw [k2]
       first
        | rw [if_pos jB]
        | rw [if_neg jB, if_pos jB])
    | (rw [if_neg jB, if_neg jB] at k2
       refine ⟨i + 1, ⟨by omega, k2⟩, by omega, vle (jc _) ?_⟩
       exact leD)
 · rw [SB l i jB] at k2
   repeat' (first | exact jA | refine AP ?_ | refine two ?_ ?_ | refine imp fun hc => ?_; try exact cx hc | refine all fun v_ => ?_)
   refine A0 ?_
   ((with_reducible apply rq1); rfl; rfl)
   exact AA (congrArg AV.int k2.symm)
theorem OH (G : List (Nat × List D)) (l : List Fo) : ACr Tryz.prog G 34 [.d (AO l)] (.int (GH l)) := by
 refine AK (ts := [2]) Tryz.f34.ntmps Tryz.func34 rfl rfl rfl (by simp [Tryz.ntmps34]) fun W I => ?_
 refine Bn (t := 0) rfl fun hl => ?_
 repeat' (first | refine ca AN (In _ _ _ _) ?_ | exact jA | refine AP ?_ | refine two ?_ ?_ | refine imp fun hc => ?_; try exact cx hc | refine all fun v_ => ?_)
 · refine A0 ?_
   ((with_reducible apply rq1); rfl; rfl)
   refine AA (congrArg AV.int ?_)
   rw [GH, if_pos jB]
 have hs : GH l = NF l := by rw [GH, if_neg jB]
 refine AG (X := Nat) (fun i => [(0, .d (AO l)), (3, .int i)]) (fun _ => []) (fun i => i ≤ l.length ∧ GH l = NF (l.drop i)) (fun i => l.length - i) 0 ⟨Nat.zero_le _, hs⟩ (VS.of_le ?_) ?_
 · exact leD
 rintro i ⟨k1, k2⟩
 by_cases hi : i < l.length
 · rw [Vf l i hi] at k2
   repeat' (first | refine ca AN (In _ _ _ _) ?_ | exact jA | refine AP ?_ | refine two ?_ ?_ | refine imp fun hc => ?_; try exact cx hc | refine all fun v_ => ?_)
   all_goals first
    | (refine A0 ?_
       ((with_reducible apply rq1); rfl; rfl)
       refine AA (congrArg AV.int ?_)
       rw [k2]
       first
        | rw [if_pos jB]
        | rw [if_neg jB, if_pos jB])
    | (rw [if_neg jB, if_neg jB] at k2
       refine ⟨i + 1, ⟨by omega, k2⟩, by omega, vle (jc _) ?_⟩
       exact leD)
 · rw [SB l i jB] at k2
   repeat' (first | refine ca AN (In _ _ _ _) ?_ | exact jA | refine AP ?_ | refine two ?_ ?_ | refine imp fun hc => ?_; try exact cx hc | refine all fun v_ => ?_)
   refine A0 ?_
   ((with_reducible apply rq1); rfl; rfl)
   exact AA (congrArg AV.int k2.symm)
theorem Az : Cal Tryz.prog 150 := Cal.of Tryz.func150 (by kernel_rfl) (by kernel_rfl)
theorem put (G : List (Nat × List D)) (v : Value) (xs : List UInt8) (n : Int) (hl : xs.length ≤ 1000000000) : AC Tryz.prog G 150 [.val v, .int n] [AL v 5 1 Dp xs] fun e h => ∃ q : Sl, e = .ret (.val q.v) ∧ h = [AL q.v 5 1 Dp (xs ++ b4 n)] := by
 refine AK (ts := [4]) 19 Tryz.func150 rfl rfl rfl (by simp) fun W I => ?_
 repeat' (first | ((with_reducible apply QC); (iterate 5 rfl); (with_reducible exact ElC.h); rfl) | exact jA | refine AP ?_ | refine two ?_ ?_ | refine imp fun hc => ?_; try exact cx hc | refine all fun v_ => ?_)
 refine A0 ?_
 ((with_reducible apply rq1); rfl; rfl)
 exact ⟨_, rfl, rfl⟩
theorem JR : Cal Tryz.prog 145 := Cal.of Tryz.func145 (by kernel_rfl) (by kernel_rfl)
theorem Be : Cal Tryz.prog 100 := Cal.of Tryz.func100 (by kernel_rfl) (by kernel_rfl)
theorem ZI : Cal Tryz.prog 55 := Cal.of Tryz.func55 (by kernel_rfl) (by kernel_rfl)
theorem Pa : Cal Tryz.prog 56 := Cal.of Tryz.func56 (by kernel_rfl) (by kernel_rfl)
theorem Zw (G : List (Nat × List D)) (l : List UInt8) (hl : l.length ≤ 140737488355328) : AC Tryz.prog G 145 [.d (CT l)] [] fun e h => ∃ q : Sl, e = .ret (.val q.v) ∧ h = [AL q.v 5 1 Dp l] := by
 refine AK (ts := [2]) 8 Tryz.func145 rfl rfl rfl (by simp) fun W I => ?_
 repeat' (first | ((with_reducible apply fR); (iterate 3 rfl); rfl) | ((with_reducible apply MY Dp); rfl; (with_reducible exact ElC.h); rfl) | exact jA | refine AP ?_ | refine two ?_ ?_ | refine imp fun hc => ?_; try exact cx hc | refine all fun v_ => ?_)
 · rename_i hn
   have : l = [] := by simpa using hn hc
   subst this
   refine AI (VS.nilrow 5 1) ?_
   ((with_reducible apply rq1); rfl; rfl)
   exact ⟨Sl.nil, rfl, rfl⟩
 · refine A0 ?_
   ((with_reducible apply rq1); rfl; rfl)
   exact ⟨_, rfl, rfl⟩
theorem Tj {p q : Prop} (hp : p) (h : p → q := by
 apply cmp; (focus (first
  | ((with_reducible apply ZM); rfl; exact JR; (focus exact Zw _ _ jB); rfl)
  | ((with_reducible apply TC); rfl; decide +kernel; rfl; exact JR; (focus exact Zw _ _ jB); rfl)
  ))
 exact fun h => h) : q := h hp
theorem ED (G : List (Nat × List D)) (t : Tp) (hm : FE t) : AC Tryz.prog G 100 [tpA t] [] fun e h => ∃ q : Sl, e = .ret (.tup [.agg [.val q.v, .int t.synced], .bool true]) ∧ h = [AL q.v 5 1 Dp t.data] := by
 obtain ⟨h1, h2, h3⟩ := hm
 refine BV (rs := [.cell 2 80, .tmp 3]) 28 Tryz.func100 rfl rfl rfl (by simp) fun W I => ?_
 repeat' (first | refine Tj ?_ | exact jA | refine AP ?_ | refine two ?_ ?_ | refine imp fun hc => ?_; try exact cx hc | refine all fun v_ => ?_)
 refine Mv (xs := [.agg [.val v_.v, .int t.synced], .bool true]) ⟨Ax rfl C7 rfl AW rfl, A4 rfl, trivial⟩ rfl (h' := [AL v_.v 5 1 Dp t.data]) IE ⟨v_, rfl, rfl⟩
theorem EN (G : List (Nat × List D)) (t : Tp) (hm : ¬ FE t) : ACr Tryz.prog G 100 [tpA t] (.tup [tpA Dz, .bool false]) := by
 unfold FE at hm
 refine BV (rs := [.cell 2 80, .tmp 3]) 28 Tryz.func100 rfl rfl rfl (by simp) fun W I => ?_
 repeat' (first | refine Tj ?_ | exact jA | refine AP ?_ | refine two ?_ ?_ | refine imp fun hc => ?_; try exact cx hc | refine all fun v_ => ?_)
 all_goals
  exact D1 (xs := [.agg [.val (.slice none 0 0), .int 0], .bool false]) (ys := [tpA Dz, .bool false]) vid ⟨Ax rfl C7 rfl AW rfl, A4 rfl, trivial⟩ ⟨AV.le_agg ⟨AV.le_nil 1 1, AV.le_refl _, trivial⟩, AV.le_refl _, trivial⟩ rfl (h' := []) (jc _) ⟨rfl, rfl⟩
theorem Sync (G : List (Nat × List D)) (t : Tp) : ACr Tryz.prog G 55 [tpA t] (.tup [tpA (Mh t).1, .int (Mh t).2]) := by
 by_cases hm : FE t
 · refine BV (rs := [.cell 2 80, .tmp 3]) 19 Tryz.func55 rfl rfl rfl (by simp) fun W I => ?_
   repeat' (first | refine cae Be (ED _ _ hm) ?_ | refine ca Be (EN _ _ hm) ?_ | exact jA | refine AP ?_ | refine two ?_ ?_ | refine imp fun hc => ?_; try exact cx hc | refine all fun v_ => ?_)
   rename_i bp br q
   have hb := hm.1
   refine FM (VS.trans (VS.drop (h' := [AL q.v 5 1 Dp t.data, .cells br 80 [.val q.v, .int t.data.length]]) (.cons _ (.cons_cons _ (.cons_cons _ (.cons _ .slnil))))) (EA (h1 := []) 1 rfl rfl (fun _ => rfl) jB (CvE.refl _ _ _) (CvH.cells (.cons .here (.cons (.same _) .nil)) (.refl _)))) (xs := [.agg [.d (CT t.data), .int t.data.length], .int 0]) ⟨Ax rfl C7 rfl AW rfl, A4 rfl, trivial⟩ rfl (h' := []) (jc _) (AA (by rw [Mh, if_pos hm]; rfl))
 · refine BV (rs := [.cell 2 80, .tmp 3]) 19 Tryz.func55 rfl rfl rfl (by simp) fun W I => ?_
   repeat' (first | refine cae Be (ED _ _ hm) ?_ | refine ca Be (EN _ _ hm) ?_ | exact jA | refine AP ?_ | refine two ?_ ?_ | refine imp fun hc => ?_; try exact cx hc | refine all fun v_ => ?_)
   exact D1 (xs := [.agg [.val (.slice none 0 0), .int 0], .int 9]) (ys := [tpA Dz, .int 9]) vid ⟨Ax rfl C7 rfl AW rfl, A4 rfl, trivial⟩ ⟨AV.le_agg ⟨AV.le_nil 1 1, AV.le_refl _, trivial⟩, AV.le_refl _, trivial⟩ rfl (h' := []) (jc _) (AA (by rw [Mh, if_neg hm]; rfl))
theorem eP (G : List (Nat × List D)) (t : Tp) (keep : Int) : ACr Tryz.prog G 56 [tpA t, .int keep] (.tup [tpA (FL t keep).1, .int (FL t keep).2]) := by
 by_cases hm : FE t
 · obtain ⟨m1, m2, m3⟩ := hm
   have hm : FE t := ⟨m1, m2, m3⟩
   refine BV (rs := [.cell 4 80, .tmp 5]) 40 Tryz.func56 rfl rfl rfl (by simp) fun W I => ?_
   repeat' (first | refine cae Be (ED _ _ hm) ?_ | refine ca Be (EN _ _ hm) ?_ | exact jA | refine AP ?_ | refine two ?_ ?_ | refine imp fun hc => ?_; try exact cx hc | refine all fun v_ => ?_)
   · exact D1 (xs := [.agg [.val (.slice none 0 0), .int 0], .int 2]) (ys := [tpA Dz, .int 2]) vid ⟨Ax rfl C7 rfl AW rfl, A4 rfl, trivial⟩ ⟨AV.le_agg ⟨AV.le_nil 1 1, AV.le_refl _, trivial⟩, AV.le_refl _, trivial⟩ rfl (h' := []) (jc _) (AA (by rw [FL, if_neg (fun h => h hm), if_pos hc]; rfl))
   refine GQ (EA (h1 := [_]) (h' := [_, _, _]) 1 rfl rfl (fun _ => rfl) jB (CvE.cons (t := 34) rfl .here (CvE.refl _ _ _)) (CvH.refl _)) ?_
   repeat' (first | refine cae Be (ED _ _ hm) ?_ | refine ca Be (EN _ _ hm) ?_ | exact jA | refine AP ?_ | refine two ?_ ?_ | refine imp fun hc => ?_; try exact cx hc | refine all fun v_ => ?_)
   refine Mv (xs := [.agg [.d (CT (t.data.take (t.synced + min keep (t.data.length - t.synced)).toNat)), .int (t.synced + min keep (t.data.length - t.synced))], .int 0]) ⟨Ax rfl C7 rfl AW rfl, A4 rfl, trivial⟩ rfl (h' := []) (jc _) (AA ?_)
   rw [FL, if_neg (fun h => h hm), if_neg hc]; rfl
 · refine BV (rs := [.cell 4 80, .tmp 5]) 40 Tryz.func56 rfl rfl rfl (by simp) fun W I => ?_
   repeat' (first | refine cae Be (ED _ _ hm) ?_ | refine ca Be (EN _ _ hm) ?_ | exact jA | refine AP ?_ | refine two ?_ ?_ | refine imp fun hc => ?_; try exact cx hc | refine all fun v_ => ?_)
   exact D1 (xs := [.agg [.val (.slice none 0 0), .int 0], .int 9]) (ys := [tpA Dz, .int 9]) vid ⟨Ax rfl C7 rfl AW rfl, A4 rfl, trivial⟩ ⟨AV.le_agg ⟨AV.le_nil 1 1, AV.le_refl _, trivial⟩, AV.le_refl _, trivial⟩ rfl (h' := []) (jc _) (AA (by rw [FL, if_pos hm]; rfl))
end Go.Proofs.YtnlfhnbcdfdhgaaGreatDoor
