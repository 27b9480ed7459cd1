/- Contracts: tapes: records written. -/
import Derived.Test.YtffdlpjbbkhcnaaU1
import Derived.Test.YtffdlpjbbkhcnaaS2
namespace Go.Av
open Go
set_option linter.unusedVariables false
set_option linter.unusedSimpArgs false
section
variable {k : Kx} {Q : Exit → Env → H → Prop} {ρ : Env} {h : H} {ops : Array Oper} {l : List Oper} {d : Nat} {ty : TypeId} {pos : String} {after : Array Edge}
/-- A call of a function that borrows. -/
theorem jborF {f : FuncId} {xs : Array Operand} {ats : Array TypeId} {es args : List AV} {v : Value} (hxs : evsO ρ xs.toList = some es) (hcal : Cal k.P f) (hac : ACr k.P k.c.G f args (.val v)) (hb : Bors h es args) (hd : Nat.blt d k.n = true)
    (hj : JL k ops l Q ((d, .val v) :: ρ) h) : JL k ops (⟨some d, .call { callee := .value (.func f), args := xs, argTypes := ats }, ty, pos, after, none⟩ :: l) Q ρ h :=
  jbor (caps := #[]) rfl hxs hcal hac (by simpa using hb) hd hj
end
end Go.Av
namespace Go.Proofs.Ytffdlpjbbkhcnaa
open Go Go.Av Go.Sp
set_option linter.unusedVariables false
set_option linter.unusedSimpArgs false
set_option maxRecDepth 100000
set_option maxHeartbeats 4000000

theorem cal_put : Cal Try.prog 54 := Cal.of Try.func54 (by kernel_rfl) (by kernel_rfl)
theorem cal_fours : Cal Try.prog 71 := Cal.of Try.func71 (by kernel_rfl) (by kernel_rfl)
theorem cal_RecordBytes : Cal Try.prog 55 := Cal.of Try.func55 (by kernel_rfl) (by kernel_rfl)
theorem put (G : List (Nat × List D)) (v : Value) (xs : List UInt8) (n : Int) (hl : xs.length ≤ 1000000000) : AC Try.prog G 54 [.val v, .int n] [rowE v 5 1 byteC xs] fun e h => ∃ q : Sl, e = .ret (.val q.v) ∧ h = [rowE q.v 5 1 byteC (xs ++ b4 n)] := by
  refine AC_ofV (ts := [4]) 19 Try.func54 rfl rfl rfl (by simp) fun W I => ?_
  repeat' (first
    | ((with_reducible apply jbuild_byte4); (focus rfl); (focus rfl); (focus rfl); (focus rfl); (focus rfl); (focus (with_reducible exact ElC.h)); (focus rfl))
    | exact True.intro
    | refine stpa ?_
    | refine two ?_ ?_
    | (refine imp fun hc => ?_) <;> try (first | contradiction | (exfalso; omega))
    | refine all fun v_ => ?_)
  refine retv0 ?_
  ((with_reducible apply rq1); rfl; rfl)
  exact ⟨_, rfl, rfl⟩
theorem foursR (G : List (Nat × List D)) (n : Int) (h0 : 0 ≤ n) (hn : inI64 n) : AC Try.prog G 71 [.int n] [] fun e h => ∃ q : Sl, e = .ret (.val q.v) ∧ h = [rowE q.v 5 1 byteC (b4 n)] := by
  refine AC_ofV (ts := [2]) 18 Try.func71 rfl rfl rfl (by simp) fun W I => ?_
  unfold inI64 at hn
  repeat' (first
    | ((with_reducible apply jrow_byte4S); (focus rfl); (focus rfl); (focus rfl); (focus rfl); (focus rfl); (focus (with_reducible exact ElC.h)); (focus rfl))
    | exact True.intro
    | refine stpa ?_
    | refine two ?_ ?_
    | (refine imp fun hc => ?_) <;> try (first | contradiction | (exfalso; omega))
    | refine all fun v_ => ?_)
  refine retv0 ?_
  ((with_reducible apply rq1); rfl; rfl)
  refine ⟨v_, rfl, ?_⟩
  unfold b4
  rw [ofInt_mod, ofInt_mod, ofInt_mod]
theorem fours (G : List (Nat × List D)) (n : Int) (h0 : 0 ≤ n) (hn : inI64 n) : ACr Try.prog G 71 [.int n] (.d (bytesD (b4 n))) := by
  refine AC_ofV (ts := [2]) 18 Try.func71 rfl rfl rfl (by simp) fun W I => ?_
  unfold inI64 at hn
  repeat' (first
    | ((with_reducible apply jbuild_byte4); (focus rfl); (focus rfl); (focus rfl); (focus rfl); (focus rfl); (focus (with_reducible exact ElC.h)); (focus rfl))
    | exact True.intro
    | refine stpa ?_
    | refine two ?_ ?_
    | (refine imp fun hc => ?_) <;> try (first | contradiction | (exfalso; omega))
    | refine all fun v_ => ?_)
  refine retv0 ?_
  ((with_reducible apply rq1); rfl; rfl)
  refine ret_eq ?_
  unfold b4
  rw [ofInt_mod, ofInt_mod, ofInt_mod]
theorem RecordBytes (G : List (Nat × List D)) (l : List Int) : ACr Try.prog G 55 [.d (intsD l)] (.tup [.d (bytesD (recB l).1), .int (recB l).2]) := by
  refine AC_ofV (ts := [2, 3]) 38 Try.func55 rfl rfl rfl (by simp) fun W I => ?_
  refine jfact (t := 0) rfl fun hl => ?_
  repeat' (first
    | ((with_reducible apply callE1); (focus rfl); (focus exact cal_fours); (focus exact foursR _ _ (by omega) (by unfold inI64; omega)); (focus rfl))
    | ((with_reducible apply je_callE); (focus rfl); (focus (decide +kernel)); (focus rfl); (focus exact cal_fours); (focus exact foursR _ _ (by omega) (by unfold inI64; omega)); (focus rfl))
    | exact True.intro
    | refine stpa ?_
    | refine two ?_ ?_
    | (refine imp fun hc => ?_) <;> try (first | contradiction | (exfalso; omega))
    | refine all fun v_ => ?_)
  · refine retv (vnil (t := 2) 1 1 rfl) ?_
    ((with_reducible apply rq2); rfl; rfl; rfl)
    refine ret_eq ?_
    rw [recB, if_pos (by omega)]; rfl
  refine J_loop (X := Nat × Sl) (fun y => [(0, .d (intsD l)), (4, .val y.2.v), (5, .int y.1)]) (fun y => [rowE y.2.v 5 1 byteC (recTo l y.1)]) (fun y => y.1 ≤ l.length ∧ okNums (l.take y.1)) (fun y => l.length - y.1) (0, v_) ⟨Nat.zero_le _, okNums_zero l⟩ ?_ (by dsimp only; rw [recTo_zero]) ?_
  · repeat (first
      | exact Env.le_nil _
      | refine Env.le_cons (AV.le_refl _) ?_
      | refine Env.le_cons (AV.le_int rfl (by first | rfl | omega | (dsimp only; omega))) ?_)
  rintro ⟨i, v⟩ ⟨k1, k2⟩
  dsimp only at k1 k2 ⊢
  have hlen := recTo_length l i k1
  by_cases hi : i < l.length
  · have h4 := b4_length l[i]
    by_cases hb : 0 ≤ l[i] ∧ l[i] ≤ 2147483647
    · repeat' (first
        | ((with_reducible apply call0); (focus rfl); (focus exact cal_In); (focus exact In _ _ _ _); (focus rfl))
        | ((with_reducible apply je_call0); (focus rfl); (focus (decide +kernel)); (focus rfl); (focus exact cal_In); (focus exact In _ _ _ _); (focus rfl))
        | ((with_reducible apply call0); (focus rfl); (focus exact cal_fours); (focus exact fours _ _ (by omega) (by unfold inI64; omega)); (focus rfl))
        | ((with_reducible apply je_call0); (focus rfl); (focus (decide +kernel)); (focus rfl); (focus exact cal_fours); (focus exact fours _ _ (by omega) (by unfold inI64; omega)); (focus rfl))
        | refine jborF rfl cal_Summed (Summed _ _) ⟨bor_row (E := 5) 1 (by ((repeat (first | exact List.mem_cons_self | apply List.mem_cons_of_mem)); done)) rfl (fun _ => rfl) (by omega), trivial⟩ rfl ?_
        | exact True.intro
        | refine stpa ?_
        | refine two ?_ ?_
        | (refine imp fun hc => ?_) <;> try (first | contradiction | (exfalso; omega))
        | refine all fun v_ => ?_)
      refine ⟨(i + 1, v_), ⟨by dsimp only; omega, okNums_succ l i hi k2 hb⟩, by dsimp only; omega, ?_, ?_⟩
      · repeat (first
          | exact Env.le_nil _
          | refine Env.le_cons (AV.le_refl _) ?_
          | refine Env.le_cons (AV.le_int rfl (by first | rfl | omega | (dsimp only; omega))) ?_)
      · dsimp only
        rw [recTo_succ l i hi]
    · repeat' (first
        | ((with_reducible apply call0); (focus rfl); (focus exact cal_In); (focus exact In _ _ _ _); (focus rfl))
        | ((with_reducible apply je_call0); (focus rfl); (focus (decide +kernel)); (focus rfl); (focus exact cal_In); (focus exact In _ _ _ _); (focus rfl))
        | ((with_reducible apply call0); (focus rfl); (focus exact cal_fours); (focus exact fours _ _ (by omega) (by unfold inI64; omega)); (focus rfl))
        | ((with_reducible apply je_call0); (focus rfl); (focus (decide +kernel)); (focus rfl); (focus exact cal_fours); (focus exact fours _ _ (by omega) (by unfold inI64; omega)); (focus rfl))
        | refine jborF rfl cal_Summed (Summed _ _) ⟨bor_row (E := 5) 1 (by ((repeat (first | exact List.mem_cons_self | apply List.mem_cons_of_mem)); done)) rfl (fun _ => rfl) (by omega), trivial⟩ rfl ?_
        | exact True.intro
        | refine stpa ?_
        | refine two ?_ ?_
        | (refine imp fun hc => ?_) <;> try (first | contradiction | (exfalso; omega))
        | refine all fun v_ => ?_)
      refine retv (VS.trans (VS.drop (List.nil_sublist _)) (vnil (t := 2) 1 1 rfl)) ?_
      ((with_reducible apply rq2); rfl; rfl; rfl)
      refine ret_eq ?_
      rw [recB, if_neg (by omega), if_neg (okNums_no l i hi (by omega))]; rfl
  · obtain rfl : i = l.length := by omega
    have h4 := b4_length (sumOf (recTo l l.length))
    have hs := sumOf_bound (recTo l l.length)
    repeat' (first
      | ((with_reducible apply call0); (focus rfl); (focus exact cal_In); (focus exact In _ _ _ _); (focus rfl))
      | ((with_reducible apply je_call0); (focus rfl); (focus (decide +kernel)); (focus rfl); (focus exact cal_In); (focus exact In _ _ _ _); (focus rfl))
      | ((with_reducible apply call0); (focus rfl); (focus exact cal_fours); (focus exact fours _ _ (by omega) (by unfold inI64; omega)); (focus rfl))
      | ((with_reducible apply je_call0); (focus rfl); (focus (decide +kernel)); (focus rfl); (focus exact cal_fours); (focus exact fours _ _ (by omega) (by unfold inI64; omega)); (focus rfl))
      | refine jborF rfl cal_Summed (Summed _ _) ⟨bor_row (E := 5) 1 (by ((repeat (first | exact List.mem_cons_self | apply List.mem_cons_of_mem)); done)) rfl (fun _ => rfl) (by omega), trivial⟩ rfl ?_
      | exact True.intro
      | refine stpa ?_
      | refine two ?_ ?_
      | (refine imp fun hc => ?_) <;> try (first | contradiction | (exfalso; omega))
      | refine all fun v_ => ?_)
    refine retv (vfreeze (t := 2) (eb := 1) rfl rfl (fun x => rfl) (by rw [List.length_append]; omega)) ?_
    ((with_reducible apply rq2); rfl; rfl; rfl)
    refine ret_eq ?_
    rw [recB, if_neg (by omega), if_pos (okNums_all l _ (Nat.le_refl _) k2)]; rfl
end Go.Proofs.Ytffdlpjbbkhcnaa
