/-
  PLAIN, NO PROGRAM: records of numbers as bytes (P11.3).
-/
import Derived.Test.YtffdlpjbbkhcnaaSh
namespace Go.Sp
open Go.Av

/-- A number's four bytes. -/
def b4 (n : Int) : List UInt8 := [UInt8.ofInt (n / 16777216), UInt8.ofInt (n / 65536), UInt8.ofInt (n / 256), UInt8.ofInt n]
theorem b4_length (n : Int) : (b4 n).length = 4 := rfl
theorem ofInt_mod (m : Int) : UInt8.ofInt (m % 256) = UInt8.ofInt m := by
  apply UInt8.toNat_inj.1
  have h1 := Go.Av.ofInt_toNat (m % 256)
  have h2 := Go.Av.ofInt_toNat m
  omega
def okNums (l : List Int) : Prop := ∀ n ∈ l, 0 ≤ n ∧ n ≤ 2147483647
instance (l : List Int) : Decidable (okNums l) := by unfold okNums; infer_instance
def recTo (l : List Int) (i : Nat) : List UInt8 := b4 l.length ++ (l.take i).flatMap b4
def recBody (l : List Int) : List UInt8 := recTo l l.length
def recAll (l : List Int) : List UInt8 := recBody l ++ b4 (sumOf (recBody l))
/-- P11.3: a record's bytes. -/
def recB (l : List Int) : List UInt8 × Int := if 4000 < l.length then ([], 1) else if okNums l then (recAll l, 0) else ([], 2)
theorem flat4_length : ∀ l : List Int, (l.flatMap b4).length = 4 * l.length
  | [] => rfl
  | n :: r => by rw [List.flatMap_cons, List.length_append, flat4_length r, b4_length, List.length_cons]; omega
theorem recTo_length (l : List Int) (i : Nat) (hi : i ≤ l.length) : (recTo l i).length = 4 + 4 * i := by
  rw [recTo, List.length_append, flat4_length, b4_length, List.length_take]; omega
theorem recTo_zero (l : List Int) : recTo l 0 = b4 l.length := by simp [recTo]
theorem recTo_succ (l : List Int) (i : Nat) (hi : i < l.length) : recTo l (i + 1) = recTo l i ++ b4 l[i] := by
  unfold recTo
  rw [List.take_succ_eq_append_getElem hi, List.flatMap_append, List.append_assoc]
  simp
theorem recAll_length (l : List Int) : (recAll l).length = 8 + 4 * l.length := by
  rw [recAll, List.length_append, recBody, recTo_length _ _ (Nat.le_refl _), b4_length]; omega
theorem okNums_zero (l : List Int) : okNums (l.take 0) := by simp [okNums]
theorem okNums_succ (l : List Int) (i : Nat) (hi : i < l.length) (h : okNums (l.take i)) (h2 : 0 ≤ l[i] ∧ l[i] ≤ 2147483647) : okNums (l.take (i + 1)) := by
  rw [List.take_succ_eq_append_getElem hi]
  intro n hn
  rcases List.mem_append.1 hn with hn | hn
  · exact h n hn
  · rw [List.mem_singleton.1 hn]; exact h2
theorem okNums_no (l : List Int) (i : Nat) (hi : i < l.length) (h : l[i] < 0 ∨ 2147483647 < l[i]) : ¬ okNums l := by
  intro hk
  have := hk l[i] (List.getElem_mem _)
  omega
theorem okNums_all (l : List Int) (i : Nat) (hi : l.length ≤ i) (h : okNums (l.take i)) : okNums l := by rwa [List.take_of_length_le hi] at h
/-- P11.3. -/
def writeOf (t : Tp) (l : List Int) : Tp × Int :=
  if ¬ mayT t then (tpNil, 9)
  else if (recB l).2 ≠ 0 then (tpNil, (recB l).2)
  else if 1048576 < t.data.length + (recB l).1.length then (tpNil, 12)
  else (⟨t.data ++ (recB l).1, t.synced⟩, 0)
theorem writeOf_1 {t : Tp} {l : List Int} (hm : mayT t) (h : 4000 < l.length) : writeOf t l = (tpNil, 1) := by
  have e : recB l = ([], 1) := by rw [recB, if_pos h]
  rw [writeOf, if_neg (fun h => h hm), e]; rfl
theorem writeOf_2 {t : Tp} {l : List Int} (hm : mayT t) (h : ¬ 4000 < l.length) (h2 : ¬ okNums l) : writeOf t l = (tpNil, 2) := by
  have e : recB l = ([], 2) := by rw [recB, if_neg h, if_neg h2]
  rw [writeOf, if_neg (fun h => h hm), e]; rfl
theorem recB_ok {l : List Int} (h : ¬ 4000 < l.length) (h2 : okNums l) : recB l = (recAll l, 0) := by rw [recB, if_neg h, if_pos h2]
theorem writeOf_12 {t : Tp} {l : List Int} (hm : mayT t) (h : ¬ 4000 < l.length) (h2 : okNums l) (h3 : 1048576 < t.data.length + (recAll l).length) : writeOf t l = (tpNil, 12) := by
  rw [writeOf, if_neg (fun h => h hm), recB_ok h h2, if_neg (by simp), if_pos h3]
theorem writeOf_ok {t : Tp} {l : List Int} (hm : mayT t) (h : ¬ 4000 < l.length) (h2 : okNums l) (h3 : ¬ 1048576 < t.data.length + (recAll l).length) : writeOf t l = (⟨t.data ++ recAll l, t.synced⟩, 0) := by
  rw [writeOf, if_neg (fun h => h hm), recB_ok h h2, if_neg (by simp), if_neg h3]
theorem writeOf_e {t : Tp} {l : List Int} (hm : mayT t) (h : (recB l).2 ≠ 0) : writeOf t l = (tpNil, (recB l).2) := by
  rw [writeOf, if_neg (fun h => h hm), if_pos h]
end Go.Sp
