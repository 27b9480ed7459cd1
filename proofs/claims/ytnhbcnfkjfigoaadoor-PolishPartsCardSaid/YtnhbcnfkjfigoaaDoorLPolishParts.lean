/- polish.Parts answers what P1.1 says, at every argument: for every input the law returns true. Conditions: none. -/
import Derived.Test.YtnhbcnfkjfigoaaDoorT1
import Derived.Test.YtnhbcnfkjfigoaaDoorTop
namespace Go.Proofs.YtnhbcnfkjfigoaaDoor
open Go Go.Av Go.Sp

theorem law_PolishParts (x : Int) : ACr Tryd.prog GP 3 [.int x] (.bool true) := by
  refine AC_of (ts := [2]) 25 Tryd.func3 rfl rfl rfl (by simp) fun W I => ?_
  repeat' (first
            | ((with_reducible apply call0); (focus rfl); (focus exact cal_Parts); (focus exact Parts _); (focus rfl))
            | ((with_reducible apply call0); (focus rfl); (focus exact cal_PartsOf); (focus exact PartsOf _ _); (focus rfl))
            | with_reducible refine JL_nil ?_
            | ((with_reducible apply jp); (focus (first
                                                   | ((with_reducible apply pu_move); rfl)
                                                   | ((with_reducible apply pu_assign); rfl)
                                                   | ((with_reducible apply pure_extract); rfl; rfl)
                                                   | ((with_reducible apply pure_lss); rfl; rfl)
                                                   | ((with_reducible apply pure_eql); rfl; rfl)
                                                   | ((with_reducible apply pure_neq); rfl; rfl)
                                                   | ((with_reducible apply pure_geq); rfl; rfl)
                                                   | ((with_reducible apply pure_gtr); rfl; rfl)
                                                   | ((with_reducible apply pure_leq); rfl; rfl)
                                                   | ((with_reducible apply pure_add); rfl; rfl; (unfold inI64; omega))
                                                   | ((with_reducible apply pure_sub); rfl; rfl; (unfold inI64; omega))
                                                   | ((with_reducible apply pu_pick_true); rfl; rfl)
                                                   | ((with_reducible apply pu_pick_false); rfl; rfl)
                                                   | ((with_reducible apply pure_not); rfl)
                                                   | ((with_reducible apply pu_len); rfl; rfl)
                                                   | ((with_reducible apply pure_len); rfl; rfl)
                                                   | ((with_reducible apply pure_index); rfl; rfl; rfl; (focus (with_reducible first
                                                                                                                 | exact el_int
                                                                                                                 | exact el_bool
                                                                                                                 | exact el_byte
                                                                                                                 | exact el_string
                                                                                                                 | exact el_Errno
                                                                                                                 | exact el_Op
                                                                                                                 | exact el_ints
                                                                                                                 | exact el_bools
                                                                                                                 | exact el_ops
                                                                                                                 )); omega)
                                                   | ((with_reducible apply pure_fieldAddr); (focus (with_reducible first
                                                                                                      | exact fd_Op0
                                                                                                      | exact fd_Op1)); rfl)
                                                   | ((with_reducible apply pure_load); rfl; rfl)
                                                   | ((with_reducible apply pure_global); rfl; (focus (with_reducible first
                                                                                                        | exact el_int
                                                                                                        | exact el_bool
                                                                                                        | exact el_byte
                                                                                                        | exact el_string
                                                                                                        | exact el_Errno
                                                                                                        | exact el_Op
                                                                                                        | exact el_ints
                                                                                                        | exact el_bools
                                                                                                        | exact el_ops
                                                                                                        )); exact GP_mem; rfl; omega; omega))); (focus rfl))
            | ((with_reducible apply jgt); (focus rfl); (focus rfl); (focus rfl); (focus rfl); (focus rfl))
            | ((with_reducible apply jgf); (focus rfl); (focus rfl); (focus rfl); (focus rfl); (focus rfl))
            | (with_reducible first
                | refine tq_normal ?_
                | refine tq_ret ?_
                | refine tq_exit ?_
                | refine tq_panic ?_
                | refine bq_normal ?_
                | refine bq_ret ?_
                | refine bq_exit ?_
                | refine bq_exit' (by decide) ?_
                | refine bq_panic ?_)
            | with_reducible refine J_seq ?_
            | with_reducible refine J_region ?_
            | with_reducible refine J_block ?_
            | with_reducible refine J_skip ?_
            | with_reducible refine J_ret ?_
            | with_reducible refine J_exit ?_
            | ((with_reducible apply jcond); (focus rfl))
            | with_reducible refine cb_true ?_
            | with_reducible refine cb_false ?_
            | (with_reducible refine cb_dec (fun hc => ?_) (fun hc => ?_)) <;> try (exfalso; omega)
            | with_reducible refine cb_not ?_
            | with_reducible refine cb_split (fun hc => ?_) (fun hc => ?_))
  ((with_reducible apply rq1); rfl; rfl)
  exact ret_eq (by simp)
namespace CardPolishParts
theorem laws : ∀ xss : List (List D), xss.length = Tryd.f3.params.toList.length → (∀ (j : Nat) t xs, Tryd.f3.params.toList[j]? = some t → xss[j]? = some xs → Conf Tryd.prog 12 t xs) → ACr Tryd.prog GP 3 ((Tryd.f3.params.toList.zip xss).map fun p => argAV (isStructB Tryd.prog p.1) p.2) (.bool true) := by
  rw [Tryd.params3]
  intro xss hl hc
  match xss, hl with
  | [x0], _ =>
    obtain ⟨n, rfl⟩ := conf_int (hc 0 _ x0 rfl rfl)
    exact law_PolishParts n
end CardPolishParts
namespace CardPolishParts
open Go.ChangeShapes Go.WideShapes Go.ChangeAt Go.RowKit
theorem laid_met (os : Os) : laidMet Tryd.prog Rows.polishPartsRow.laid ((laidWorld os).forCall (fun _ _ => 0) ⟨#[], #[.int .i64 0], []⟩).memory :=
  laidMet_of_run' 24 (by kernel_rfl) (by kernel_rfl)
theorem reads (os : Os) {H : Type} (enc : TypeId × Value → H) : ∃ places, DataW.whole enc Tryd.prog ((laidWorld os).forCall (fun _ _ => 0) ⟨#[], #[.int .i64 0], []⟩).memory Tryd.f3.params.toList Rows.polishPartsSpec.vars false (#[.int .i64 0] : Array Value).toList 24 = some ([.lit (.int .i64 0)], [], places) :=
  ⟨[], by kernel_rfl⟩

theorem params : ∀ t ∈ Tryd.f3.params.toList, plainB Tryd.prog 12 t = true ∧ Tryd.prog.readableRec t = true ∧ t < Tryd.prog.types.size := by
  rw [Tryd.params3]
  intro t ht
  simp only [List.mem_cons, List.not_mem_nil, or_false] at ht
  rcases ht with rfl <;> exact ⟨by kernel_rfl, by kernel_rfl, of_decide_eq_true (by kernel_rfl)⟩

set_option maxRecDepth 100000 in
theorem lifted (os : Os) (started : os.Started) (H : Type) (enc : TypeId × Value → H) (F : Stop.Interp) :
    ReturnsInHanded {} Tryd.checked os 3 .any ((OpenSpec.ofChange Rows.polishPartsSpec).preRow enc Tryd.prog Tryd.f3 Rows.polishPartsRow.domain false Rows.polishPartsRow.laid) (((OpenSpec.ofChange Rows.polishPartsSpec).at F).post enc Tryd.prog Tryd.f3 false true false false) := by
  obtain ⟨places, hx⟩ := reads os enc
  refine returnsInHanded_of_row (C := Tryd.checked) (s := OpenSpec.ofChange Rows.polishPartsSpec) own started (by kernel_rfl) Tryd.func3
    (witness_row_at (enc := enc) (C := Tryd.checked) false (laidWorld os) #[.int .i64 0] rfl (by kernel_rfl) (by kernel_rfl) (by kernel_rfl)
      (OpenSpec.preRow_of_cond 24 hx (by kernel_rfl) (fun k hk => by cases hk) (by kernel_rfl) (laid_met os))) ?_
  intro W base args ds gs before hval hW _ _ hz hL _ _
  refine law_of (G := GP) (g := 12) laidOutAll params rfl Tryd.underlying4 rfl ?_ ?_ (globPD hL) hval hW ?_
  · intro ds hds
    rw [Tryd.params3] at hds
    match ds, hds with
    | [d0], _ => exact ⟨rfl, rfl, rfl⟩
  · exact laws
  · obtain ⟨p, q, _, hV, _⟩ := hW
    obtain rfl : gs = [] := by cases gs with | nil => rfl | cons _ _ => simp [Rows.polishPartsSpec, OpenSpec.ofChange, DataW.TrodVars] at hV
    simpa [Rows.polishPartsSpec, OpenSpec.ofChange, OpenSpec.bare, ChangeSpec.plain, DataSpec.varTypes] using hz

theorem said : Rows.polishPartsRow.holds Tryd.pinned (OpenSpec.ofChange Rows.polishPartsSpec) :=
  OpenClaim.holds_of_cond 3 Tryd.f3 rfl rfl rfl rfl rfl rfl rfl ⟨rfl, rfl, rfl, rfl, rfl⟩ rfl rfl rfl rfl rfl (by kernel_rfl) Tryd.func3 (by kernel_rfl)
    (of_decide_eq_true (by kernel_rfl)) (by unfold Func.isWrapper; first | (rw [if_pos (by decide +kernel)]; kernel_rfl) | (rw [if_neg (by decide +kernel)]; exact ⟨rfl, rfl⟩))
    (fun os started H enc _ F => by rw [OpenClaim.pre_eq_preRow]; exact lifted os started H enc F)

theorem plain (f : FuncId) (fn : Func) (hf : Tryd.pinned.checked.prog.funcNamed "foretell/foretelllaw.PolishParts" = some f) (hfn : Tryd.pinned.checked.prog.funcs[f]? = some fn) :
    true = Tryd.pinned.checked.prog.looks [] ∧ ∀ (j : Nat) t, fn.params[j]? = some t → Tryd.pinned.checked.prog.wantsStandIn t = false := by
  obtain rfl : f = 3 := Option.some.inj ((show Tryd.prog.funcNamed "foretell/foretelllaw.PolishParts" = some 3 by kernel_rfl).symm.trans hf) |>.symm
  obtain rfl : fn = Tryd.f3 := (Option.some.inj (Tryd.func3.symm.trans hfn)).symm
  refine ⟨by kernel_rfl, fun j t ht => ?_⟩
  have hm : t ∈ Tryd.f3.params.toList := by simpa using Array.mem_of_getElem? ht
  rw [Tryd.params3] at hm
  simp only [List.mem_cons, List.not_mem_nil, or_false] at hm
  rcases hm with rfl <;> (show _ = false; kernel_rfl)

theorem card : Rows.PolishPartsCardSaid :=
  Claim7.holds_tied_plain_at .later [] _ _ _ _ said (fun _ h => by cases h) (by kernel_rfl) (fun _ h => by cases h) polishParts_row_tie rfl ⟨rfl, rfl⟩ (by kernel_rfl) rfl plain (by kernel_rfl)
end CardPolishParts
end Go.Proofs.YtnhbcnfkjfigoaaDoor
