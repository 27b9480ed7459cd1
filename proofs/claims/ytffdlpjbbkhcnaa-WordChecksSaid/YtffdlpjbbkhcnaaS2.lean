/-
  PLAIN, NO PROGRAM: tapes.
-/
import Derived.Test.YtffdlpjbbkhcnaaS1
import Derived.Test.YtffdlpjbbkhcnaaE3
namespace Go.Sp
open Go.Av
set_option linter.unusedVariables false
set_option linter.unusedSimpArgs false

def sumS : List UInt8 → Int → Int
  | [], s => s
  | c :: r, s => sumS r ((s * 257 + c.toNat) % 2147483629)
/-- P11.2. -/
def sumOf (l : List UInt8) : Int := sumS l 1
theorem sumS_at (l : List UInt8) (i : Nat) (hi : i < l.length) (s : Int) : sumS (l.drop i) s = sumS (l.drop (i + 1)) ((s * 257 + l[i].toNat) % 2147483629) := by
  rw [List.drop_eq_getElem_cons hi]; rfl
theorem sumS_end (l : List UInt8) (i : Nat) (hi : l.length ≤ i) (s : Int) : sumS (l.drop i) s = s := by rw [List.drop_eq_nil_of_le hi]; rfl
theorem sumS_bound : ∀ (l : List UInt8) (s : Int), 0 ≤ s → s < 2147483629 → 0 ≤ sumS l s ∧ sumS l s < 2147483629
  | [], s, h1, h2 => ⟨h1, h2⟩
  | c :: r, s, h1, h2 => sumS_bound r _ (Int.emod_nonneg _ (by decide)) (Int.emod_lt_of_pos _ (by decide))
theorem sumOf_bound (l : List UInt8) : 0 ≤ sumOf l ∧ sumOf l < 2147483629 := sumS_bound l 1 (by decide) (by decide)

def movE : List Fo → Int
  | [] => 0
  | m :: r => if m.kind < 1 ∨ 4 < m.kind then 13 else if m.val < 0 ∨ 2147483647 < m.val then 2 else movE r
/-- P13.1. -/
def movF (l : List Fo) : Int := if 5000 < l.length then 1 else movE l
theorem movE_at (l : List Fo) (i : Nat) (hi : i < l.length) : movE (l.drop i) = if l[i].kind < 1 ∨ 4 < l[i].kind then 13 else if l[i].val < 0 ∨ 2147483647 < l[i].val then 2 else movE (l.drop (i + 1)) := by
  rw [List.drop_eq_getElem_cons hi]; rfl
theorem movE_end (l : List Fo) (i : Nat) (hi : l.length ≤ i) : movE (l.drop i) = 0 := by rw [List.drop_eq_nil_of_le hi]; rfl

structure Tp where
  data : List UInt8
  synced : Int
abbrev tpA (t : Tp) : AV := .agg [.d (bytesD t.data), .int t.synced]
def tpNil : Tp := ⟨[], 0⟩
def mayT (t : Tp) : Prop := t.data.length ≤ 1048576 ∧ 0 ≤ t.synced ∧ t.synced ≤ t.data.length
instance (t : Tp) : Decidable (mayT t) := by unfold mayT; infer_instance
/-- P11.4. -/
def syncOf (t : Tp) : Tp × Int := if mayT t then (⟨t.data, t.data.length⟩, 0) else (tpNil, 9)
/-- P11.5. -/
def crashOf (t : Tp) (keep : Int) : Tp × Int :=
  if ¬ mayT t then (tpNil, 9) else if keep < 0 then (tpNil, 2)
  else (⟨t.data.take (t.synced + min keep (t.data.length - t.synced)).toNat, t.synced + min keep (t.data.length - t.synced)⟩, 0)
end Go.Sp
namespace Go.Sp
open Go.Av
set_option linter.unusedVariables false
set_option linter.unusedSimpArgs false

/-- A number's four bytes. -/
def b4 (n : Int) : List UInt8 := [UInt8.ofInt (n / 16777216), UInt8.ofInt (n / 65536), UInt8.ofInt (n / 256), UInt8.ofInt n]
theorem b4_length (n : Int) : (b4 n).length = 4 := rfl
theorem ofInt_mod (m : Int) : UInt8.ofInt (m % 256) = UInt8.ofInt m := by
  apply UInt8.toNat_inj.1
  have h1 := Go.Av.ofInt_toNat (m % 256)
  have h2 := Go.Av.ofInt_toNat m
  omega
def okNums (l : List Int) : Prop := ∀ n ∈ l, 0 ≤ n ∧ n ≤ 2147483647
instance (l : List Int) : Decidable (okNums l) := by unfold okNums; infer_instance
def recTo (l : List Int) (i : Nat) : List UInt8 := b4 l.length ++ (l.take i).flatMap b4
def recBody (l : List Int) : List UInt8 := recTo l l.length
def recAll (l : List Int) : List UInt8 := recBody l ++ b4 (sumOf (recBody l))
/-- P11.3: a record's bytes. -/
def recB (l : List Int) : List UInt8 × Int := if 4000 < l.length then ([], 1) else if okNums l then (recAll l, 0) else ([], 2)
theorem flat4_length : ∀ l : List Int, (l.flatMap b4).length = 4 * l.length
  | [] => rfl
  | n :: r => by rw [List.flatMap_cons, List.length_append, flat4_length r, b4_length, List.length_cons]; omega
theorem recTo_length (l : List Int) (i : Nat) (hi : i ≤ l.length) : (recTo l i).length = 4 + 4 * i := by
  rw [recTo, List.length_append, flat4_length, b4_length, List.length_take]; omega
theorem recTo_zero (l : List Int) : recTo l 0 = b4 l.length := by simp [recTo]
theorem recTo_succ (l : List Int) (i : Nat) (hi : i < l.length) : recTo l (i + 1) = recTo l i ++ b4 l[i] := by
  unfold recTo
  rw [List.take_succ_eq_append_getElem hi, List.flatMap_append, List.append_assoc]
  simp
theorem recAll_length (l : List Int) : (recAll l).length = 8 + 4 * l.length := by
  rw [recAll, List.length_append, recBody, recTo_length _ _ (Nat.le_refl _), b4_length]; omega
theorem okNums_zero (l : List Int) : okNums (l.take 0) := by simp [okNums]
theorem okNums_succ (l : List Int) (i : Nat) (hi : i < l.length) (h : okNums (l.take i)) (h2 : 0 ≤ l[i] ∧ l[i] ≤ 2147483647) : okNums (l.take (i + 1)) := by
  rw [List.take_succ_eq_append_getElem hi]
  intro n hn
  rcases List.mem_append.1 hn with hn | hn
  · exact h n hn
  · rw [List.mem_singleton.1 hn]; exact h2
theorem okNums_no (l : List Int) (i : Nat) (hi : i < l.length) (h : l[i] < 0 ∨ 2147483647 < l[i]) : ¬ okNums l := by
  intro hk
  have := hk l[i] (List.getElem_mem _)
  omega
theorem okNums_all (l : List Int) (i : Nat) (hi : l.length ≤ i) (h : okNums (l.take i)) : okNums l := by rwa [List.take_of_length_le hi] at h
/-- P11.3. -/
def writeOf (t : Tp) (l : List Int) : Tp × Int :=
  if ¬ mayT t then (tpNil, 9)
  else if (recB l).2 ≠ 0 then (tpNil, (recB l).2)
  else if 1048576 < t.data.length + (recB l).1.length then (tpNil, 12)
  else (⟨t.data ++ (recB l).1, t.synced⟩, 0)
theorem writeOf_1 {t : Tp} {l : List Int} (hm : mayT t) (h : 4000 < l.length) : writeOf t l = (tpNil, 1) := by
  have e : recB l = ([], 1) := by rw [recB, if_pos h]
  rw [writeOf, if_neg (fun h => h hm), e]; rfl
theorem writeOf_2 {t : Tp} {l : List Int} (hm : mayT t) (h : ¬ 4000 < l.length) (h2 : ¬ okNums l) : writeOf t l = (tpNil, 2) := by
  have e : recB l = ([], 2) := by rw [recB, if_neg h, if_neg h2]
  rw [writeOf, if_neg (fun h => h hm), e]; rfl
theorem recB_ok {l : List Int} (h : ¬ 4000 < l.length) (h2 : okNums l) : recB l = (recAll l, 0) := by rw [recB, if_neg h, if_pos h2]
theorem writeOf_12 {t : Tp} {l : List Int} (hm : mayT t) (h : ¬ 4000 < l.length) (h2 : okNums l) (h3 : 1048576 < t.data.length + (recAll l).length) : writeOf t l = (tpNil, 12) := by
  rw [writeOf, if_neg (fun h => h hm), recB_ok h h2, if_neg (by simp), if_pos h3]
theorem writeOf_ok {t : Tp} {l : List Int} (hm : mayT t) (h : ¬ 4000 < l.length) (h2 : okNums l) (h3 : ¬ 1048576 < t.data.length + (recAll l).length) : writeOf t l = (⟨t.data ++ recAll l, t.synced⟩, 0) := by
  rw [writeOf, if_neg (fun h => h hm), recB_ok h h2, if_neg (by simp), if_neg h3]
theorem writeOf_e {t : Tp} {l : List Int} (hm : mayT t) (h : (recB l).2 ≠ 0) : writeOf t l = (tpNil, (recB l).2) := by
  rw [writeOf, if_neg (fun h => h hm), if_pos h]
end Go.Sp
namespace Go.Sp
open Go.Av
set_option linter.unusedVariables false
set_option linter.unusedSimpArgs false

/-- The byte at a place. -/
def at8 (b : List UInt8) (i : Nat) : Int := (((b[i]?).getD 0).toNat : Int)
/-- The number of four bytes at a place. -/
def g4 (b : List UInt8) (i : Nat) : Int := 16777216 * at8 b i + 65536 * at8 b (i + 1) + 256 * at8 b (i + 2) + at8 b (i + 3)
theorem at8_bound (b : List UInt8) (i : Nat) : 0 ≤ at8 b i ∧ at8 b i ≤ 255 := by
  have := ((b[i]?).getD 0).toNat_lt
  unfold at8
  omega
theorem g4_bound (b : List UInt8) (i : Nat) : 0 ≤ g4 b i ∧ g4 b i ≤ 4294967295 := by
  have h0 := at8_bound b i
  have h1 := at8_bound b (i + 1)
  have h2 := at8_bound b (i + 2)
  have h3 := at8_bound b (i + 3)
  unfold g4
  omega
theorem at8_get (b : List UInt8) (i : Nat) (h : i < b.length) : at8 b i = (b[i].toNat : Int) := by simp [at8, List.getElem?_eq_getElem h]
theorem at8_drop (b : List UInt8) (k i : Nat) : at8 (b.drop k) i = at8 b (k + i) := by simp [at8, List.getElem?_drop]
theorem g4_drop (b : List UInt8) (k i : Nat) : g4 (b.drop k) i = g4 b (k + i) := by simp [g4, at8_drop, Nat.add_assoc]
/-- So many numbers. -/
def fourL (b : List UInt8) (at_ n : Nat) : List Int := (List.range n).map fun i => g4 b (at_ + 4 * i)
theorem fourL_length (b : List UInt8) (a n : Nat) : (fourL b a n).length = n := by simp [fourL]
theorem fourL_succ (b : List UInt8) (a n : Nat) : fourL b a (n + 1) = fourL b a n ++ [g4 b (a + 4 * n)] := by simp [fourL, List.range_succ]
theorem fourL_drop (b : List UInt8) (k a n : Nat) : fourL (b.drop k) a n = fourL b (k + a) n := by simp [fourL, g4_drop, Nat.add_assoc]
/-- The numbers of the record that stands at the beginning: there is one that is whole. -/
def wholeAt (b : List UInt8) : Prop :=
  4 ≤ b.length ∧ g4 b 0 ≤ 4000 ∧ 8 + 4 * (g4 b 0).toNat ≤ b.length ∧ g4 b (4 + 4 * (g4 b 0).toNat) = sumOf (b.take (4 + 4 * (g4 b 0).toNat)) ∧ okNums (fourL b 4 (g4 b 0).toNat)
instance (b : List UInt8) : Decidable (wholeAt b) := by unfold wholeAt; infer_instance
/-- P11.6: the first record: its numbers, its bytes. -/
def firstOf (b : List UInt8) : List Int × Nat := (fourL b 4 (g4 b 0).toNat, 8 + 4 * (g4 b 0).toNat)
/-- P11.6, byte by byte: so many steps at most. -/
def readN : Nat → List UInt8 → List (List Int) × Nat
  | 0, _ => ([], 0)
  | f + 1, b => if wholeAt b then ((firstOf b).1 :: (readN f (b.drop (firstOf b).2)).1, (firstOf b).2 + (readN f (b.drop (firstOf b).2)).2) else ([], 0)
def readB (b : List UInt8) : List (List Int) × Nat := readN b.length b
theorem whole_le {b : List UInt8} (h : wholeAt b) : (firstOf b).2 ≤ b.length ∧ 8 ≤ (firstOf b).2 := ⟨h.2.2.1, by simp [firstOf]⟩
theorem readN_more : ∀ (f g : Nat) (b : List UInt8), b.length ≤ f → b.length ≤ g → readN f b = readN g b
  | 0, 0, _, _, _ => rfl
  | 0, g + 1, b, h, _ => by
    have : ¬ wholeAt b := fun hw => by have := hw.1; omega
    simp [readN, this]
  | f + 1, 0, b, _, h => by
    have : ¬ wholeAt b := fun hw => by have := hw.1; omega
    simp [readN, this]
  | f + 1, g + 1, b, h1, h2 => by
    unfold readN
    by_cases hw : wholeAt b
    · obtain ⟨q1, q2⟩ := whole_le hw
      rw [if_pos hw, if_pos hw, readN_more f g (b.drop (firstOf b).2) (by rw [List.length_drop]; omega) (by rw [List.length_drop]; omega)]
    · rw [if_neg hw, if_neg hw]
theorem readB_whole {b : List UInt8} (h : wholeAt b) : readB b = ((firstOf b).1 :: (readB (b.drop (firstOf b).2)).1, (firstOf b).2 + (readB (b.drop (firstOf b).2)).2) := by
  obtain ⟨q1, q2⟩ := whole_le h
  unfold readB
  have e : b.length = (b.length - 1) + 1 := by omega
  rw [e, readN, if_pos h, readN_more (b.length - 1) (b.drop (firstOf b).2).length _ (by rw [List.length_drop]; omega) (Nat.le_refl _)]
theorem readB_no {b : List UInt8} (h : ¬ wholeAt b) : readB b = ([], 0) := by
  unfold readB
  cases b.length with
  | zero => rfl
  | succ n => rw [readN, if_neg h]
theorem readN_le : ∀ (f : Nat) (b : List UInt8), (readN f b).2 ≤ b.length
  | 0, _ => Nat.zero_le _
  | f + 1, b => by
    unfold readN
    by_cases hw : wholeAt b
    · obtain ⟨q1, q2⟩ := whole_le hw
      rw [if_pos hw]
      have := readN_le f (b.drop (firstOf b).2)
      rw [List.length_drop] at this
      dsimp only
      omega
    · rw [if_neg hw]; exact Nat.zero_le _
theorem readB_le (b : List UInt8) : (readB b).2 ≤ b.length := readN_le _ b
/-- What was read up to a place. -/
def readTo (b : List UInt8) (l : List (List Int)) (a : Nat) : Prop := a ≤ b.length ∧ readB b = (l ++ (readB (b.drop a)).1, a + (readB (b.drop a)).2)
theorem readTo_zero (b : List UInt8) : readTo b [] 0 := ⟨Nat.zero_le _, by simp⟩
theorem readTo_next {b : List UInt8} {l : List (List Int)} {a : Nat} (h : readTo b l a) (hw : wholeAt (b.drop a)) : readTo b (l ++ [(firstOf (b.drop a)).1]) (a + (firstOf (b.drop a)).2) := by
  have q := whole_le hw
  rw [List.length_drop] at q
  refine ⟨by have := h.1; omega, ?_⟩
  rw [h.2, readB_whole hw, List.drop_drop]
  simp [Nat.add_assoc]
theorem readTo_end {b : List UInt8} {l : List (List Int)} {a : Nat} (h : readTo b l a) (hw : ¬ wholeAt (b.drop a)) : readB b = (l, a) := by
  rw [h.2, readB_no hw]; simp
/-- P11.6. -/
def readOf (t : Tp) : (List (List Int) × Int) × Int := if mayT t then (((readB t.data).1, ((readB t.data).2 : Int)), 0) else (([], 0), 9)
/-- P11.7. -/
def repairOf (t : Tp) : Tp × Int := if mayT t then (⟨t.data.take (readB t.data).2, min t.synced (readB t.data).2⟩, 0) else (tpNil, 9)

/-! ### A record is whole where writing what it says makes just these bytes -/
theorem byte_eq {a b : UInt8} (h : (a.toNat : Int) = b.toNat) : a = b := UInt8.toNat_inj.1 (by omega)
theorem b4_g4 (b : List UInt8) (i : Nat) (h : i + 4 ≤ b.length) : b4 (g4 b i) = (b.drop i).take 4 := by
  have e0 := at8_get b i (by omega)
  have e1 := at8_get b (i + 1) (by omega)
  have e2 := at8_get b (i + 2) (by omega)
  have e3 := at8_get b (i + 3) (by omega)
  have h0 := at8_bound b i
  have h1 := at8_bound b (i + 1)
  have h2 := at8_bound b (i + 2)
  have h3 := at8_bound b (i + 3)
  rw [List.drop_eq_getElem_cons (by omega), List.drop_eq_getElem_cons (by omega), List.drop_eq_getElem_cons (by omega), List.drop_eq_getElem_cons (by omega)]
  simp only [List.take_succ_cons, List.take_zero, b4, g4]
  refine congr (congrArg List.cons (byte_eq ?_)) (congr (congrArg List.cons (byte_eq ?_)) (congr (congrArg List.cons (byte_eq ?_)) (congr (congrArg List.cons (byte_eq ?_)) rfl)))
  · rw [ofInt_toNat]; (try simp only [Nat.add_assoc, Nat.reduceAdd]); omega
  · rw [ofInt_toNat]; (try simp only [Nat.add_assoc, Nat.reduceAdd]); omega
  · rw [ofInt_toNat]; (try simp only [Nat.add_assoc, Nat.reduceAdd]); omega
  · rw [ofInt_toNat]; (try simp only [Nat.add_assoc, Nat.reduceAdd]); omega
theorem g4_b4 (n : Int) (h0 : 0 ≤ n) (h1 : n ≤ 4294967295) (r : List UInt8) : g4 (b4 n ++ r) 0 = n := by
  have e0 := ofInt_toNat (n / 16777216)
  have e1 := ofInt_toNat (n / 65536)
  have e2 := ofInt_toNat (n / 256)
  have e3 := ofInt_toNat n
  simp only [g4, at8, b4, List.cons_append, List.nil_append, List.getElem?_cons_zero, List.getElem?_cons_succ, Nat.zero_add, Option.getD_some]
  rw [e0, e1, e2, e3]
  omega
theorem flat_fourL (b : List UInt8) : ∀ (n a : Nat), a + 4 * n ≤ b.length → (fourL b a n).flatMap b4 = (b.drop a).take (4 * n)
  | 0, a, _ => by simp [fourL]
  | n + 1, a, h => by
    rw [fourL_succ, List.flatMap_append, flat_fourL b n a (by omega), List.flatMap_singleton, b4_g4 b _ (by omega)]
    rw [show 4 * (n + 1) = 4 * n + 4 by omega, List.take_add, List.drop_drop]
theorem g4_take (b : List UInt8) (i k : Nat) (h : i + 4 ≤ k) : g4 (b.take k) i = g4 b i := by
  have : ∀ j, j < k → at8 (b.take k) j = at8 b j := fun j hj => by simp [at8, List.getElem?_take, hj]
  unfold g4
  rw [this i (by omega), this (i + 1) (by omega), this (i + 2) (by omega), this (i + 3) (by omega)]
/-- The record that says what stands there is the bytes that stand there, just if it is whole. -/
theorem whole_iff (b : List UInt8) (h4 : 4 ≤ b.length) (hn : g4 b 0 ≤ 4000) (hl : 8 + 4 * (g4 b 0).toNat ≤ b.length) :
    wholeAt b ↔ okNums (fourL b 4 (g4 b 0).toNat) ∧ recAll (fourL b 4 (g4 b 0).toNat) = b.take (8 + 4 * (g4 b 0).toNat) := by
  have hg := g4_bound b 0
  have hbody : recBody (fourL b 4 (g4 b 0).toNat) = b.take (4 + 4 * (g4 b 0).toNat) := by
    unfold recBody recTo
    rw [List.take_of_length_le (Nat.le_refl _), fourL_length, Int.toNat_of_nonneg hg.1, flat_fourL b _ 4 (by omega), b4_g4 b 0 (by omega), List.drop_zero, List.take_add]
  have hall : recAll (fourL b 4 (g4 b 0).toNat) = b.take (4 + 4 * (g4 b 0).toNat) ++ b4 (sumOf (b.take (4 + 4 * (g4 b 0).toNat))) := by rw [recAll, hbody]
  have hs := sumOf_bound (b.take (4 + 4 * (g4 b 0).toNat))
  have htake : b.take (8 + 4 * (g4 b 0).toNat) = b.take (4 + 4 * (g4 b 0).toNat) ++ b4 (g4 b (4 + 4 * (g4 b 0).toNat)) := by
    rw [b4_g4 b _ (by omega), ← List.take_add]; congr 1; omega
  constructor
  · rintro ⟨_, _, _, q4, q5⟩
    exact ⟨q5, by rw [hall, htake, q4]⟩
  · rintro ⟨q5, q⟩
    refine ⟨h4, hn, hl, ?_, q5⟩
    rw [hall, htake] at q
    have q' := List.append_cancel_left q
    have e1 := g4_b4 (sumOf (b.take (4 + 4 * (g4 b 0).toNat))) hs.1 (by omega) []
    have e2 := g4_b4 (g4 b (4 + 4 * (g4 b 0).toNat)) (g4_bound _ _).1 (g4_bound _ _).2 []
    rw [List.append_nil] at e1 e2
    rw [← e1, q', e2]
end Go.Sp
