/- scc.Reached answers what P8.3 says, at every argument: for every input the law returns true. Conditions: none. -/
import Derived.Test.YtffdlpjbbkhcnaaV3
import Derived.Test.YtffdlpjbbkhcnaaTopP
import Derived.Test.YtffdlpjbbkhcnaaCg
namespace Go.Proofs.Ytffdlpjbbkhcnaa
open Go Go.Av Go.Sp
set_option maxRecDepth 100000
set_option maxHeartbeats 4000000

theorem cal_sameTruths : Cal Try.prog 40 := Cal.of Try.func40 (by kernel_rfl) (by kernel_rfl)
/-- Are they the same? -/
theorem sameTruths (G : List (Nat × List D)) (a b : List Bool) : ACr Try.prog G 40 [.d (boolsD a), .d (boolsD b)] (.bool (decide (a = b))) := by
  refine AC_of (ts := [4]) 26 Try.func40 rfl rfl rfl (by simp) fun W I => ?_
  refine jfact (t := 0) rfl fun hl0 => ?_
  refine jfact (t := 1) rfl fun hl1 => ?_
  repeat' (first
    | exact True.intro
    | refine stp ?_
    | refine two ?_ ?_
    | (refine imp fun hc => ?_) <;> try (first | contradiction | (exfalso; omega))
    | refine all fun v_ => ?_)
  · ((with_reducible apply rq1); rfl; rfl)
    refine ret_eq ?_
    rw [decide_eq_false]
    intro e; subst e; omega
  refine J_loop (X := Nat) (fun i => [(0, .d (boolsD a)), (1, .d (boolsD b)), (5, .int i)]) (fun _ => []) (fun i => i ≤ a.length ∧ a.take i = b.take i) (fun i => a.length - i) 0 ⟨Nat.zero_le _, rfl⟩ ?_ rfl ?_
  · repeat (first
      | exact Env.le_nil _
      | refine Env.le_cons (AV.le_refl _) ?_
      | refine Env.le_cons (AV.le_int rfl (by first | rfl | omega | (dsimp only; omega))) ?_)
  rintro i ⟨h1, h2⟩
  repeat' (first
    | exact True.intro
    | refine stp ?_
    | refine two ?_ ?_
    | (refine imp fun hc => ?_) <;> try (first | contradiction | (exfalso; omega))
    | refine all fun v_ => ?_)
  all_goals first
    | (((with_reducible apply rq1); rfl; rfl)
       refine ret_eq ?_
       rw [decide_eq_false]
       intro e; subst e
       simp at hc)
    | (refine ⟨i + 1, ⟨by omega, take_step (by omega) (by omega) h2 ?_⟩, by first | omega | (dsimp only; omega), ?_, rfl⟩
       · simpa using hc
       · repeat (first
           | exact Env.le_nil _
           | refine Env.le_cons (AV.le_refl _) ?_
           | refine Env.le_cons (AV.le_int rfl (by first | rfl | omega | (dsimp only; omega))) ?_))
    | (((with_reducible apply rq1); rfl; rfl)
       refine ret_eq ?_
       rw [decide_eq_true]
       rwa [List.take_of_length_le (by omega), List.take_of_length_le (by omega)] at h2)
theorem law_SccReacheds (g : Gr) : ACr Try.prog GP 11 [grA g] (.bool true) := by
  refine AC_ofV (ts := [2]) Try.f11.ntmps Try.func11 rfl rfl rfl (by simp [Try.ntmps11]) fun W I => ?_
  repeat' (first
    | ((with_reducible apply call0); (focus rfl); (focus exact cal_graphs); (focus exact graphs _ _); (focus rfl))
    | ((with_reducible apply je_call0); (focus rfl); (focus (decide +kernel)); (focus rfl); (focus exact cal_graphs); (focus exact graphs _ _); (focus rfl))
    | ((with_reducible apply call0); (focus rfl); (focus exact cal_SReached); (focus exact SReached _ _); (focus rfl))
    | ((with_reducible apply je_call0); (focus rfl); (focus (decide +kernel)); (focus rfl); (focus exact cal_SReached); (focus exact SReached _ _); (focus rfl))
    | ((with_reducible apply call0); (focus rfl); (focus exact cal_ReachedOf); (focus exact ReachedOf _ _); (focus rfl))
    | ((with_reducible apply je_call0); (focus rfl); (focus (decide +kernel)); (focus rfl); (focus exact cal_ReachedOf); (focus exact ReachedOf _ _); (focus rfl))
    | ((with_reducible apply call0); (focus rfl); (focus exact cal_sameTruths); (focus exact sameTruths _ _ _); (focus rfl))
    | ((with_reducible apply je_call0); (focus rfl); (focus (decide +kernel)); (focus rfl); (focus exact cal_sameTruths); (focus exact sameTruths _ _ _); (focus rfl))
    | ((with_reducible apply qcall); (focus rfl); (focus exact cal_sameTruths); (focus exact sameTruths _ _ _); (focus rfl))
    | exact True.intro
    | refine stpa ?_
    | refine two ?_ ?_
    | (refine imp fun hc => ?_) <;> try (first | contradiction | (exfalso; omega))
    | refine all fun v_ => ?_)
  all_goals
    refine retv (VS.drop (List.nil_sublist _)) ?_
    ((with_reducible apply rq1); rfl; rfl)
    exact ret_eq (by simp_all)
namespace PlainSccReacheds
theorem laws : ∀ xss : List (List D), xss.length = Try.f11.params.toList.length → (∀ (j : Nat) t xs, Try.f11.params.toList[j]? = some t → xss[j]? = some xs → Conf Try.prog 12 t xs) → ACr Try.prog GP 11 ((Try.f11.params.toList.zip xss).map fun p => argAV (isStructB Try.prog p.1) p.2) (.bool true) := by
  rw [Try.params11]
  intro xss hl hc
  match xss, hl with
  | [x0], _ =>
    (obtain ⟨g, rfl⟩ := conf_Graph (hc 0 _ x0 rfl rfl))
    exact law_SccReacheds g
end PlainSccReacheds
namespace PlainSccReacheds
open Go.ChangeShapes Go.WideShapes Go.ChangeAt Go.RowKit
theorem laid_met (os : Os) : laidMet Try.prog Rows.sccReachedsRow.laid ((laidWorld os).forCall (fun _ _ => 0) ⟨#[], #[.agg #[.slice none 0 0, .int .i64 0, .slice none 0 0, .slice none 0 0, .int .i64 0]], []⟩).memory :=
  laidMet_of_run' 24 (by kernel_rfl) (by kernel_rfl)
theorem reads (os : Os) {H : Type} (enc : TypeId × Value → H) : ∃ places, DataW.whole enc Try.prog ((laidWorld os).forCall (fun _ _ => 0) ⟨#[], #[.agg #[.slice none 0 0, .int .i64 0, .slice none 0 0, .slice none 0 0, .int .i64 0]], []⟩).memory Try.f11.params.toList Rows.sccReachedsSpec.vars false (#[.agg #[.slice none 0 0, .int .i64 0, .slice none 0 0, .slice none 0 0, .int .i64 0]] : Array Value).toList 24 = some ([.agg [.nil, .lit (.int .i64 0), .nil, .nil, .lit (.int .i64 0)]], [], places) :=
  ⟨[], by kernel_rfl⟩

theorem params : ∀ t ∈ Try.f11.params.toList, plainB Try.prog 12 t = true ∧ Try.prog.readableRec t = true ∧ t < Try.prog.types.size := by
  rw [Try.params11]
  intro t ht
  simp only [List.mem_cons, List.not_mem_nil, or_false] at ht
  rcases ht with rfl <;> exact ⟨by kernel_rfl, by kernel_rfl, of_decide_eq_true (by kernel_rfl)⟩

set_option maxRecDepth 100000 in
theorem lifted (os : Os) (started : os.Started) (H : Type) (enc : TypeId × Value → H) (F : Stop.Interp) :
    ReturnsInHanded {} Try.checked os 11 .any ((OpenSpec.ofChange Rows.sccReachedsSpec).preRow enc Try.prog Try.f11 Rows.sccReachedsRow.domain false Rows.sccReachedsRow.laid) (((OpenSpec.ofChange Rows.sccReachedsSpec).at F).post enc Try.prog Try.f11 false true false false) := by
  obtain ⟨places, hx⟩ := reads os enc
  refine returnsInHanded_of_row (C := Try.checked) (s := OpenSpec.ofChange Rows.sccReachedsSpec) own started (by kernel_rfl) Try.func11
    (witness_row_at (enc := enc) (C := Try.checked) false (laidWorld os) #[.agg #[.slice none 0 0, .int .i64 0, .slice none 0 0, .slice none 0 0, .int .i64 0]] rfl (by kernel_rfl) (by kernel_rfl) (by kernel_rfl)
      (OpenSpec.preRow_of_cond 24 hx (by kernel_rfl) (fun k hk => by cases hk) (by kernel_rfl) (laid_met os))) ?_
  intro W base args ds gs before hval hW _ _ hz hL _ _
  refine law_of (G := GP) (g := 12) laidOutAll params rfl Try.underlying4 rfl ?_ ?_ (fun q hq => by cases hq) hval hW ?_
  · intro ds hds
    rw [Try.params11] at hds
    match ds, hds with
    | [d0], _ => exact ⟨rfl, rfl, rfl⟩
  · exact laws
  · obtain ⟨p, q, _, hV, _⟩ := hW
    obtain rfl : gs = [] := by cases gs with | nil => rfl | cons _ _ => simp [Rows.sccReachedsSpec, OpenSpec.ofChange, DataW.TrodVars] at hV
    simpa [Rows.sccReachedsSpec, OpenSpec.ofChange, OpenSpec.bare, ChangeSpec.plain, DataSpec.varTypes] using hz

theorem said : Rows.sccReachedsRow.holds Try.pinned (OpenSpec.ofChange Rows.sccReachedsSpec) :=
  OpenClaim.holds_of_cond 11 Try.f11 rfl rfl rfl rfl rfl rfl rfl ⟨rfl, rfl, rfl, rfl, rfl⟩ rfl rfl rfl rfl rfl (by kernel_rfl) Try.func11 (by kernel_rfl)
    (of_decide_eq_true (by kernel_rfl)) (by unfold Func.isWrapper; first | (rw [if_pos (by decide +kernel)]; kernel_rfl) | (rw [if_neg (by decide +kernel)]; exact ⟨rfl, rfl⟩))
    (fun os started H enc _ F => by rw [OpenClaim.pre_eq_preRow]; exact lifted os started H enc F)

theorem card : Rows.SccReachedsSaid := said
end PlainSccReacheds
end Go.Proofs.Ytffdlpjbbkhcnaa
