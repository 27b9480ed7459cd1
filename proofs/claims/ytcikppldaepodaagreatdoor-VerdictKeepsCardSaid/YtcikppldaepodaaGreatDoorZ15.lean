/- A bundle of this claim's own texts: Q1 G14 N6 G1 G15 G16 G17 E8 N3 Q2. -/
import Derived.Sort.OwnSortedInts
import Derived.Lib.SlicesCompact
import Derived.Laws.Cover3
import Derived.Shelf.Sort.Plain
import Derived.Shelf.Slices.In.SortNone
import Derived.Shelf.Slices.CompactI
import Derived.Test.YtcikppldaepodaaGreatDoorProg
import Derived.Test.YtcikppldaepodaaGreatDoorZ1
import Derived.Test.YtcikppldaepodaaGreatDoorZ4
import Derived.Test.YtcikppldaepodaaGreatDoorZ9
import Derived.Test.YtcikppldaepodaaGreatDoorZ12
import Derived.Test.YtcikppldaepodaaGreatDoorZ14
namespace Go.Av
open Go Go.Sort Go.Proofs Go.Sp
set_option linter.unusedVariables false
set_option linter.unusedSimpArgs false

abbrev sortI (l : List Int) : List Int := l.mergeSort fun x y => decide (x ≤ y)
theorem ints_rels {w : World} {I : Nat → Prop} : ∀ {xs : List Int} {us : List Value}, AV.rels w I ((xs.map intC).flatten.map D.av) us → us = xs.map (Value.int .i64)
  | [], [], _ => rfl
  | [], _ :: _, h => h.elim
  | x :: xs, [], h => h.elim
  | x :: xs, u :: us, h => by
    obtain ⟨h1, h2⟩ := h
    rw [List.map_cons, ← ints_rels h2, show u = .int .i64 x from h1]
theorem rels_ints (w : World) (I : Nat → Prop) : ∀ xs : List Int, AV.rels w I ((xs.map intC).flatten.map D.av) (xs.map (Value.int .i64))
  | [] => trivial
  | x :: xs => ⟨rfl, rels_ints w I xs⟩
theorem AC_sortI {P : Program} {G : List (Nat × List D)} {f : FuncId} {E : TypeId} (q : Sl) (xs : List Int) (hbig : xs.length < 4611686018427387904)
    (hc : ∀ (blk cap : Nat) (zs : List Int) (w : World), Holds (Value.int .i64) w blk 0 zs.toArray → blk < w.heap.size → zs.length < 4611686018427387904 → Calls P f #[.slice (some ⟨blk, 0, none⟩) zs.length cap] w fun e w' => e = .returned (.tuple #[]) ∧ ∃ n os, w' = grow (putRow (Value.int .i64) (Sort.ahead w n) blk 0 (sortI zs).toArray) os)
    (hn : ∀ w : World, Calls P f #[.slice none 0 0] w fun e w' => e = .returned (.tuple #[]) ∧ w' = w) :
    AC P G f [.val q.v] [rowE q.v E 1 intC xs] fun e h => e = .ret (.tup []) ∧ h = [rowE q.v E 1 intC (sortI xs)] := by
  intro I W vs h1 h2 h3 h4 h5
  obtain ⟨v, rfl⟩ : ∃ v, vs = [v] := by
    cases vs with
    | nil => exact h5.elim
    | cons v t => cases t with
      | nil => exact ⟨v, rfl⟩
      | cons _ _ => exact h5.2.elim
  obtain rfl : v = q.v := h5.1
  obtain ⟨us, ho, hr⟩ := h1 _ List.mem_cons_self
  obtain rfl := ints_rels hr
  have hls : (sortI xs).length = xs.length := List.length_mergeSort _
  rcases ho.2 with ⟨e1, e2⟩ | ⟨g, cap, cur, e1, e2, e3, e4, e5, e6, e7⟩
  · obtain rfl : xs = [] := List.length_eq_zero_iff.1 e2
    have hz : sortI ([] : List Int) = [] := by simp [sortI]
    rw [e1, hz]
    refine (hn W).mono ?_
    rintro e w' ⟨rfl, rfl⟩
    refine ⟨_, _, I, ⟨rfl, rfl⟩, ⟨fun e he => ?_, List.nodup_nil, fun b hb => ⟨(h3 b hb).1, (fun k => by cases k)⟩, fun b hb => (by cases hb), fun b hb => .inl hb, fun b hb => hb, rfl, rfl, rfl, Nat.le_refl _, fun _ _ _ => rfl, h4⟩, ⟨[], rfl, trivial⟩⟩
    obtain rfl := List.mem_singleton.1 he
    exact ⟨[], ⟨rfl, .inl ⟨rfl, rfl⟩⟩, trivial⟩
  · have hq : q = ⟨some ⟨g, 0, none⟩, xs.length, cap⟩ := by
      have h := e1
      simp only [Sl.v, Value.slice.injEq] at h
      obtain ⟨a, b, c⟩ := h
      cases q; simp_all
    subst hq
    have hbl : ∀ ys : List Int, blks [rowE (Sl.v ⟨some ⟨g, 0, none⟩, xs.length, cap⟩) E 1 intC ys] = [g] := fun ys => rfl
    have hgs : g < W.heap.size := (Array.getElem?_eq_some_iff.1 e3).1
    refine (hc g cap xs W (holds_of_blockI e3 (by rw [Nat.mul_one] at e7; exact e7)) hgs hbig).mono ?_
    rintro e w' ⟨rfl, n, os, rfl⟩
    have hg := grownBy_sortedI (w := W) (g := g) (n := n) (os := os) (sortI xs).toArray
    have hkeep : ∀ b, I b → (grow (putRow (Value.int .i64) (Sort.ahead W n) g 0 (sortI xs).toArray) os).heap[b]? = W.heap[b]? := fun b hb => by
      refine hg.block b (h3 b hb).1 fun e => ?_
      have := (h3 b hb).2
      rw [hbl] at this
      exact this (by rw [Option.some.inj e]; exact List.mem_singleton.2 rfl)
    refine ⟨_, _, I, ⟨rfl, rfl⟩, ⟨fun e he => ?_, ?_, fun b hb => ⟨Nat.lt_of_lt_of_le (h3 b hb).1 hg.size, ?_⟩, fun b hb => ?_, fun b hb => .inl hb, fun b hb => hb, hg.os, hg.tape, hg.output, hg.size, fun b hb hne => ?_, fun q hq => PD.mono hkeep (fun _ h => h) (h4 q hq)⟩, ⟨[], rfl, trivial⟩⟩
    · obtain rfl := List.mem_singleton.1 he
      have hos := ownsRow_sortedI (n := n) (os := os) (base := 0) hls (Nat.zero_le g) e3 e4 e5 e6
      refine ⟨(sortI xs).map (Value.int .i64), ?_, rels_ints _ _ _⟩
      rw [hls]; exact hos
    · rw [hbl]; simp
    · have := (h3 b hb).2
      rw [hbl] at this ⊢; exact this
    · rw [hbl] at hb; rw [hbl]; exact .inl hb
    · refine hg.block b hb fun e => hne ?_
      rw [hbl, Option.some.inj e]; exact List.mem_singleton.2 rfl
theorem AC_compactI {P : Program} {G : List (Nat × List D)} {f : FuncId} {E : TypeId} (q : Sl) (xs : List Int) (hbig : xs.length ≤ 9223372036854775807) (hk : (Lib.compact xs).length ≤ xs.length)
    (hc : ∀ (blk cap : Nat) (zs : List Int) (w : World), Holds (Value.int .i64) w blk 0 zs.toArray → zs.length ≤ 9223372036854775807 → zs.length ≤ cap → Calls P f #[.slice (some ⟨blk, 0, none⟩) zs.length cap] w fun e w' => e = .returned (.slice (some ⟨blk, 0, none⟩) (Lib.compact zs).length cap) ∧ ∃ q, w' = putRow (Value.int .i64) (Sort.ahead w q) blk 0 (Lib.compact zs ++ List.replicate (zs.length - (Lib.compact zs).length) 0).toArray)
    (hn : ∀ w : World, Calls P f #[.slice none 0 0] w fun e w' => e = .returned (.slice none 0 0) ∧ w' = w) :
    AC P G f [.val q.v] [rowE q.v E 1 intC xs] fun e h => ∃ q' : Sl, e = .ret (.val q'.v) ∧ h = [rowE q'.v E 1 intC (Lib.compact xs)] := by
  intro I W vs h1 h2 h3 h4 h5
  obtain ⟨v, rfl⟩ : ∃ v, vs = [v] := by
    cases vs with
    | nil => exact h5.elim
    | cons v t => cases t with
      | nil => exact ⟨v, rfl⟩
      | cons _ _ => exact h5.2.elim
  obtain rfl : v = q.v := h5.1
  obtain ⟨us, ho, hr⟩ := h1 _ List.mem_cons_self
  obtain rfl := ints_rels hr
  rcases ho.2 with ⟨e1, e2⟩ | ⟨g, cap, cur, e1, e2, e3, e4, e5, e6, e7⟩
  · obtain rfl : xs = [] := List.length_eq_zero_iff.1 e2
    rw [e1]
    refine (hn W).mono ?_
    rintro e w' ⟨rfl, rfl⟩
    refine ⟨_, _, I, ⟨Sl.nil, rfl, rfl⟩, ⟨fun e he => ?_, List.nodup_nil, fun b hb => ⟨(h3 b hb).1, (fun k => by cases k)⟩, fun b hb => (by cases hb), fun b hb => .inl hb, fun b hb => hb, rfl, rfl, rfl, Nat.le_refl _, fun _ _ _ => rfl, h4⟩, rfl⟩
    obtain rfl := List.mem_singleton.1 he
    exact ⟨[], ⟨rfl, .inl ⟨rfl, rfl⟩⟩, trivial⟩
  · have hq : q = ⟨some ⟨g, 0, none⟩, xs.length, cap⟩ := by
      have h := e1
      simp only [Sl.v, Value.slice.injEq] at h
      obtain ⟨a, b, c⟩ := h
      cases q; simp_all
    subst hq
    have hbl : ∀ (n : Nat) (ys : List Int), blks [rowE (Sl.v ⟨some ⟨g, 0, none⟩, n, cap⟩) E 1 intC ys] = [g] := fun n ys => rfl
    refine (hc g cap xs W (holds_of_blockI e3 (by rw [Nat.mul_one] at e7; exact e7)) hbig e4).mono ?_
    rintro e w' ⟨rfl, n, rfl⟩
    generalize hys : Lib.compact xs ++ List.replicate (xs.length - (Lib.compact xs).length) 0 = ys
    have hyl : ys.length = xs.length := by rw [← hys, List.length_append, List.length_replicate]; omega
    have hg := grownBy_sortedI (w := W) (g := g) (n := n) (os := #[]) ys.toArray
    have hh := heap_sortedI (w := W) (g := g) (n := n) (os := #[]) ys.toArray e3
    rw [grow_empty] at hg hh
    have hkeep : ∀ b, I b → (putRow (Value.int .i64) (Sort.ahead W n) g 0 ys.toArray).heap[b]? = W.heap[b]? := fun b hb => by
      refine hg.block b (h3 b hb).1 fun e => ?_
      have := (h3 b hb).2
      rw [hbl] at this
      exact this (by rw [Option.some.inj e]; exact List.mem_singleton.2 rfl)
    refine ⟨_, _, I, ⟨⟨some ⟨g, 0, none⟩, (Lib.compact xs).length, cap⟩, rfl, rfl⟩, ⟨fun e he => ?_, ?_, fun b hb => ⟨Nat.lt_of_lt_of_le (h3 b hb).1 hg.size, ?_⟩, fun b hb => ?_, fun b hb => .inl hb, fun b hb => hb, hg.os, hg.tape, hg.output, hg.size, fun b hb hne => ?_, fun q hq => PD.mono hkeep (fun _ h => h) (h4 q hq)⟩, rfl⟩
    · obtain rfl := List.mem_singleton.1 he
      have ht := take_putCellsI cur ys (by rw [hyl]; omega)
      refine ⟨(Lib.compact xs).map (Value.int .i64), ⟨by simp, .inr ⟨g, cap, _, rfl, Nat.zero_le _, hh, by omega, e5, by simp [putCells, e6], ?_⟩⟩, rels_ints _ _ _⟩
      have h := congrArg (List.take (Lib.compact xs).length) ht
      rw [List.take_take, Nat.min_eq_left (by omega), ← List.map_take, ← hys, List.take_left] at h
      rw [Nat.mul_one]; rw [← hys]; exact h
    · rw [hbl]; simp
    · have := (h3 b hb).2
      rw [hbl] at this ⊢; exact this
    · rw [hbl] at hb; rw [hbl]; exact .inl hb
    · refine hg.block b hb fun e => hne ?_
      rw [hbl, Option.some.inj e]; exact List.mem_singleton.2 rfl
end Go.Av
namespace Go.Sp
open Go Go.Av
set_option linter.unusedVariables false
set_option linter.unusedSimpArgs false

def upTo (n : Nat) (l : List Int) : List Int := ((List.range n).filter fun c : Nat => decide ((c : Int) ∈ l)).map Int.ofNat
theorem mem_upTo {n : Nat} {l : List Int} (h : ∀ x ∈ l, 0 ≤ x ∧ x < n) (x : Int) : x ∈ upTo n l ↔ x ∈ l := by
  unfold upTo
  simp only [List.mem_map, List.mem_filter, List.mem_range, decide_eq_true_eq]
  constructor
  · rintro ⟨c, ⟨_, hc⟩, rfl⟩; exact hc
  · intro hx
    obtain ⟨h0, h1⟩ := h x hx
    exact ⟨x.toNat, ⟨by omega, by rwa [Int.toNat_of_nonneg h0]⟩, Int.toNat_of_nonneg h0⟩
theorem upTo_up (n : Nat) (l : List Int) : (upTo n l).Pairwise (· < ·) := by
  unfold upTo
  rw [List.pairwise_map]
  exact (List.pairwise_lt_range.filter _).imp fun h => Int.ofNat_lt.2 h
theorem up_eq : ∀ {a b : List Int}, a.Pairwise (· < ·) → b.Pairwise (· < ·) → (∀ x, x ∈ a ↔ x ∈ b) → a = b
  | [], [], _, _, _ => rfl
  | [], y :: b, _, _, h => by cases (h y).2 List.mem_cons_self
  | x :: a, [], _, _, h => by cases (h x).1 List.mem_cons_self
  | x :: a, y :: b, ha, hb, h => by
    rw [List.pairwise_cons] at ha hb
    have e : x = y := by
      rcases List.mem_cons.1 ((h x).1 List.mem_cons_self) with e | e
      · exact e
      rcases List.mem_cons.1 ((h y).2 List.mem_cons_self) with e' | e'
      · exact e'.symm
      have h1 := ha.1 y e'
      have h2 := hb.1 x e
      omega
    subst e
    refine congrArg (x :: ·) (up_eq ha.2 hb.2 fun z => ?_)
    constructor
    · intro hz
      rcases List.mem_cons.1 ((h z).1 (List.mem_cons_of_mem _ hz)) with e | e
      · have := ha.1 z hz; omega
      · exact e
    · intro hz
      rcases List.mem_cons.1 ((h z).2 (List.mem_cons_of_mem _ hz)) with e | e
      · have := hb.1 z hz; omega
      · exact e
theorem compact_up (zs : List Int) (hs : zs.Pairwise (· ≤ ·)) : ∀ m, m ≤ zs.length → (Lib.compactUpTo zs.toArray m).Pairwise (· < ·) ∧ (∀ x, x ∈ Lib.compactUpTo zs.toArray m ↔ ∃ j, j < m ∧ zs.toArray[j]! = x)
  | 0, _ => ⟨by simp [Lib.compactUpTo], fun x => by simp [Lib.compactUpTo]⟩
  | m + 1, hm => by
    obtain ⟨i1, i2⟩ := compact_up zs hs m (by omega)
    have hat : ∀ j (h : j < zs.length), zs.toArray[j]! = zs[j] := fun j h => by simp [h]
    have hle : ∀ i j (h : j < zs.length), i ≤ j → zs.toArray[i]! ≤ zs.toArray[j]! := fun i j h hij => by
      rw [hat j h, hat i (by omega)]
      rcases Nat.lt_or_eq_of_le hij with hl | rfl
      · exact List.pairwise_iff_getElem.1 hs i j (by omega) h hl
      · exact Int.le_refl _
    rw [Lib.compactUpTo_succ]
    by_cases hk : Lib.keeps zs.toArray m = true
    · rw [if_pos hk]
      have hlt : ∀ x ∈ Lib.compactUpTo zs.toArray m, x < zs.toArray[m]! := fun x hx => by
        obtain ⟨j, hj, rfl⟩ := (i2 x).1 hx
        have h1 := hle j (m - 1) (by omega) (by omega)
        have h2 := hle (m - 1) m (by omega) (by omega)
        unfold Lib.keeps at hk
        have h3 : zs.toArray[m]! ≠ zs.toArray[m - 1]! := by
          rcases of_decide_eq_true hk with h | h
          · omega
          · exact h
        omega
      refine ⟨List.pairwise_append.2 ⟨i1, List.pairwise_singleton _ _, fun a ha b hb => ?_⟩, fun x => ?_⟩
      · rw [List.mem_singleton.1 hb]; exact hlt a ha
      · rw [List.mem_append, List.mem_singleton, i2]
        constructor
        · rintro (⟨j, hj, rfl⟩ | rfl)
          · exact ⟨j, by omega, rfl⟩
          · exact ⟨m, by omega, rfl⟩
        · rintro ⟨j, hj, rfl⟩
          rcases Nat.lt_or_eq_of_le (Nat.lt_succ_iff.1 hj) with h | rfl
          · exact .inl ⟨j, h, rfl⟩
          · exact .inr rfl
    · rw [if_neg hk, List.append_nil]
      refine ⟨i1, fun x => ?_⟩
      have hk' : m ≠ 0 ∧ zs.toArray[m]! = zs.toArray[m - 1]! := by
        unfold Lib.keeps at hk
        rw [decide_eq_true_eq] at hk
        exact ⟨fun h => hk (.inl h), Decidable.not_not.1 fun h => hk (.inr h)⟩
      rw [i2]
      constructor
      · rintro ⟨j, hj, rfl⟩; exact ⟨j, by omega, rfl⟩
      · rintro ⟨j, hj, rfl⟩
        rcases Nat.lt_or_eq_of_le (Nat.lt_succ_iff.1 hj) with h | rfl
        · exact ⟨j, h, rfl⟩
        · exact ⟨j - 1, by omega, hk'.2.symm⟩
theorem sortI_sorted (l : List Int) : (sortI l).Pairwise (· ≤ ·) := by
  have h := List.pairwise_mergeSort (le := fun x y : Int => decide (x ≤ y)) (fun a b c h1 h2 => decide_eq_true (Int.le_trans (of_decide_eq_true h1) (of_decide_eq_true h2))) (fun a b => by
    rcases Int.le_total a b with h | h
    · simp [h]
    · simp [h]) l
  exact h.imp fun h => of_decide_eq_true h
theorem mem_sortI (l : List Int) (x : Int) : x ∈ sortI l ↔ x ∈ l := List.mem_mergeSort
theorem sortI_length (l : List Int) : (sortI l).length = l.length := List.length_mergeSort _
theorem mem_compact_sort (l : List Int) (x : Int) : x ∈ Lib.compact (sortI l) ↔ x ∈ l := by
  unfold Lib.compact
  rw [(compact_up _ (sortI_sorted l) _ (Nat.le_refl _)).2, ← mem_sortI l x]
  constructor
  · rintro ⟨j, hj, rfl⟩
    rw [show (sortI l).toArray[j]! = (sortI l)[j] by simp [List.getElem?_eq_getElem hj]]
    exact List.getElem_mem hj
  · intro h
    obtain ⟨j, hj, rfl⟩ := List.getElem_of_mem h
    exact ⟨j, hj, by simp [List.getElem?_eq_getElem hj]⟩
theorem compact_sort (n : Nat) (l : List Int) (h : ∀ x ∈ l, 0 ≤ x ∧ x < n) : Lib.compact (sortI l) = upTo n l :=
  up_eq (compact_up _ (sortI_sorted l) _ (Nat.le_refl _)).1 (upTo_up n l) fun x => by rw [mem_upTo h]; exact mem_compact_sort l x
theorem codeE_bound : ∀ (l : List Vr) (xs : List Int) (n p : Int), (∀ v ∈ l, 1 ≤ spanV v) → xs.length = l.length → 0 ≤ n → n + 1 ≤ p → (codeE n l xs).2 = 0 → 0 ≤ (codeE n l xs).1 ∧ (codeE n l xs).1 + 1 ≤ p * prodV l
  | [], [], n, p, _, _, h0, h1, _ => by simp only [codeE, prodV, Int.mul_one]; exact ⟨h0, h1⟩
  | [], _ :: _, _, _, _, h, _, _, _ => by simp at h
  | _ :: _, [], _, _, _, h, _, _, _ => by simp at h
  | v :: l, x :: xs, n, p, hs, hl, h0, h1, h2 => by
    rw [codeE] at h2 ⊢
    by_cases c : v.low ≤ x ∧ x ≤ v.high
    · rw [if_pos c] at h2 ⊢
      have hv := hs v List.mem_cons_self
      obtain ⟨_, s1, s2⟩ := horner_step (s := spanV v) (d := x - v.low) h0 h1 (by omega) (by unfold spanV; omega)
      have ih := codeE_bound l xs _ _ (fun w hw => hs w (List.mem_cons_of_mem _ hw)) (by simpa using hl) s1 s2 h2
      rw [prodV, ← Int.mul_assoc]
      exact ih
    · rw [if_neg c] at h2; exact absurd h2 (by decide)
theorem codeF_bound {m : Md} (hm : modelF m = 0) {xs : List Int} (hl : xs.length = m.vars.length) (h : (codeF m xs).2 = 0) : 0 ≤ (codeF m xs).1 ∧ (codeF m xs).1 < prodV m.vars := by
  rw [code_of hm hl] at h ⊢
  have := codeE_bound m.vars xs 0 1 (fun v hv => ((goodV (modelF_vars hm)).span v hv).1) hl (Int.le_refl _) (by omega) h
  omega
noncomputable def codesL (m : Md) (vs : List Int) (l : List Ru) : List Int := l.filterMap fun r => (afterF m r vs).map fun out => (codeF m out).1
theorem after_code {m : Md} (hm : modelF m = 0) {r : Ru} (hr : r ∈ m.rules) {vs : List Int} (g : InV m vs) {out : List Int} (h : afterF m r vs = some out) : out.length = m.vars.length ∧ (codeF m out).2 = 0 ∧ 0 ≤ (codeF m out).1 ∧ (codeF m out).1 < prodV m.vars := by
  unfold afterF at h
  by_cases c : evalF r.guard vs = (1, 0) ∧ ∀ s ∈ r.sets, setOk m vs s
  · rw [if_pos c] at h
    cases h
    have hl : (setAll vs r.sets vs).length = m.vars.length := by rw [setAll_length]; exact g.len
    have h2 := after_ok hm hr g c.2
    exact ⟨hl, h2, codeF_bound hm hl h2⟩
  · rw [if_neg c] at h; cases h
theorem codesL_range {m : Md} (hm : modelF m = 0) {vs : List Int} (g : InV m vs) : ∀ x ∈ codesL m vs m.rules, 0 ≤ x ∧ x < prodV m.vars := by
  intro x hx
  obtain ⟨r, hr, h⟩ := List.mem_filterMap.1 hx
  cases ha : afterF m r vs with
  | none => rw [ha] at h; cases h
  | some out =>
    rw [ha] at h
    cases h
    exact (after_code hm hr g ha).2.2
noncomputable def nextF (m : Md) (c : Int) : List Int × Int :=
  if (valsF m c).2 ≠ 0 then ([], (valsF m c).2)
  else (if codesL m (valsF m c).1 m.rules = [] then [c] else upTo (prodV m.vars).toNat (codesL m (valsF m c).1 m.rules), 0)
end Go.Sp
namespace Go.Sp
open Go Go.Av
set_option linter.unusedVariables false
set_option linter.unusedSimpArgs false
noncomputable abbrev firstF (m : Md) : Int := (codeF m (inits m)).1
theorem first_ok {m : Md} (h : modelF m = 0) : (codeF m (inits m)).2 = 0 ∧ 0 ≤ firstF m ∧ firstF m < prodV m.vars := by
  have hl : (inits m).length = m.vars.length := by simp [inits]
  have h2 : (codeF m (inits m)).2 = 0 := by
    rw [code_of h hl]
    refine codeE_all _ _ _ fun i h1 h2 => ?_
    have := (goodV (modelF_vars h)).range m.vars[i] (List.getElem_mem h1)
    unfold rangeV at this
    simp only [inits, List.getElem_map]
    omega
  exact ⟨h2, codeF_bound h hl h2⟩
end Go.Sp
namespace Go.Sp
open Go.Av
set_option linter.unusedVariables false
set_option linter.unusedSimpArgs false

structure Gn where
  spots : List Fo
  init : Nat
  next : List (List Nat)
  sets : List Nat
  many : Nat
def Gn.nx (g : Gn) (i : Nat) : List Nat := (g.next[i]?).getD []
inductive Rch (nx : Nat → List Nat) : Nat → Nat → Prop where
  | refl (i : Nat) : Rch nx i i
  | step {i j k : Nat} (h : Rch nx i j) (e : k ∈ nx j) : Rch nx i k
theorem Rch.one {nx : Nat → List Nat} {i j : Nat} (e : j ∈ nx i) : Rch nx i j := .step (.refl i) e
end Go.Sp
namespace Go.Sp
open Go.Av
set_option linter.unusedVariables false
set_option linter.unusedSimpArgs false

def gi (l : List Int) (i : Nat) : Int := (l[i]?).getD 0
theorem gi_out (l : List Int) (i : Nat) (h : l.length ≤ i) : gi l i = 0 := by simp [gi, List.getElem?_eq_none h]
structure TS where
  order : List Int
  low : List Int
  part : List Int
  opn : List Nat
  calls : List (Nat × Nat)
  met : Nat

abbrev TS.F (s : TS) : List Nat := s.calls.map Prod.fst
def TS.done (nx : Nat → List Nat) (s : TS) (v w : Nat) : Prop := w ∈ nx v ∧ ∀ j, (v, j) ∈ s.calls → w ∈ (nx v).take j
def isLeast (nx : Nat → List Nat) (v : Nat) (m : Int) : Prop := ∃ k : Nat, m = k ∧ Rch nx v k ∧ Rch nx k v ∧ ∀ u, Rch nx v u → Rch nx u v → k ≤ u

structure TInv (nx : Nat → List Nat) (n : Nat) (x : Option Nat) (s : TS) : Prop where
  lo : s.order.length = n
  ll : s.low.length = n
  lp : s.part.length = n
  om : ∀ v, 0 ≤ gi s.order v ∧ gi s.order v ≤ s.met
  pw : s.opn.Pairwise (fun a b => gi s.order a < gi s.order b)
  mem : ∀ v, v ∈ s.opn ↔ gi s.order v ≠ 0 ∧ gi s.part v < 0
  fpw : s.F.Pairwise (fun a b => gi s.order a < gi s.order b)
  fin : ∀ c ∈ s.F, c ∈ s.opn
  fj : ∀ p ∈ s.calls, p.2 ≤ (nx p.1).length
  bot : s.opn.head? = s.F.head?
  vis : ∀ v w, gi s.order v ≠ 0 → s.done nx v w → gi s.order w ≠ 0 ∨ x = some w
  dsc : ∀ c ∈ s.F, ∀ v ∈ s.opn, gi s.order c ≤ gi s.order v → Rch nx c v
  cls : ∀ v, gi s.order v ≠ 0 → 0 ≤ gi s.part v → ∀ w ∈ nx v, gi s.order w ≠ 0 ∧ 0 ≤ gi s.part w
  prt : ∀ v, gi s.order v ≠ 0 → 0 ≤ gi s.part v → isLeast nx v (gi s.part v)
  lwr : ∀ v ∈ s.opn, ∃ w ∈ s.opn, gi s.order w = gi s.low v ∧ Rch nx v w
  lwf : ∀ v ∈ s.opn, gi s.low v ≤ gi s.order v ∧ (v ∉ s.F → gi s.low v < gi s.order v)
  anc : ∀ c ∈ s.F, ∀ v ∈ s.opn, gi s.order c ≤ gi s.order v → (∀ q ∈ s.F, gi s.order q ≤ gi s.order v → gi s.order q ≤ gi s.order c) →
    gi s.low c ≤ gi s.low v ∧ ∀ w, s.done nx v w → w ∈ s.opn → gi s.low c ≤ gi s.order w
  pn : ∀ v, v < n → gi s.order v = 0 → gi s.part v = -1

section
variable {nx : Nat → List Nat} {n : Nat} {x : Option Nat} {s : TS}

theorem TInv.lt (t : TInv nx n x s) {v : Nat} (h : gi s.order v ≠ 0) : v < n := by
  rcases Nat.lt_or_ge v n with h' | h'
  · exact h'
  · exact absurd (gi_out s.order v (by rw [t.lo]; exact h')) h

theorem calls_last {p : Nat × Nat} (h : s.calls.getLast? = some p) : s.calls = s.calls.dropLast ++ [p] := by
  obtain ⟨ys, e⟩ := List.getLast?_eq_some_iff.1 h
  rw [e]; simp
theorem last_mem {p : Nat × Nat} (h : s.calls.getLast? = some p) : p ∈ s.calls := by rw [calls_last h]; simp
end
end Go.Sp
namespace Go.Sp
open Go.Av
set_option linter.unusedVariables false
set_option linter.unusedSimpArgs false
section
variable {nx : Nat → List Nat} {n : Nat} {x : Option Nat} {s : TS}

structure AtEnd (nx : Nat → List Nat) (n : Nat) (s : TS) (a : Nat) : Prop where
  inv : TInv nx n none s
  last : ∃ p, s.calls.getLast? = some p ∧ p.1 = a ∧ p.2 = (nx a).length
namespace AtEnd
set_option linter.unusedVariables false
set_option linter.unusedSimpArgs false
variable {a : Nat}
theorem aF (t : AtEnd nx n s a) : a ∈ s.F := by
  obtain ⟨p, h, e, _⟩ := t.last
  rw [← e]; exact List.mem_map.2 ⟨p, last_mem h, rfl⟩
theorem ao (t : AtEnd nx n s a) : a ∈ s.opn := t.inv.fin a t.aF
theorem an (t : AtEnd nx n s a) : a < n := t.inv.lt ((t.inv.mem a).1 t.ao).1
end AtEnd

end
end Go.Sp
namespace Go.Sp
open Go.Av
set_option linter.unusedVariables false
set_option linter.unusedSimpArgs false

end Go.Sp
namespace Go.Sp
open Go.Av
set_option linter.unusedVariables false
set_option linter.unusedSimpArgs false

def fromP (nx : Nat → List Nat) (fr : List Nat) (i : Nat) : Prop := ∃ j ∈ fr, Rch nx j i
end Go.Sp
namespace Go.Sp
open Go Go.Av
set_option linter.unusedVariables false
set_option linter.unusedSimpArgs false

end Go.Sp
namespace Go.Sp
open Go Go.Av
set_option linter.unusedVariables false
set_option linter.unusedSimpArgs false

theorem codesL_succ (m : Md) (vs : List Int) (l : List Ru) (i : Nat) (h : i < l.length) : codesL m vs (l.take (i + 1)) = codesL m vs (l.take i) ++ (match afterF m l[i] vs with | none => [] | some out => [(codeF m out).1]) := by
  unfold codesL
  rw [List.take_succ_eq_append_getElem h, List.filterMap_append, List.filterMap_cons, List.filterMap_nil]
  cases afterF m l[i] vs <;> rfl
theorem codesL_none {m : Md} {vs : List Int} {l : List Ru} {i : Nat} (h : i < l.length) (ho : afterF m l[i] vs = none) : codesL m vs (l.take (i + 1)) = codesL m vs (l.take i) := by
  rw [codesL_succ m vs l i h, ho, List.append_nil]
theorem codesL_some {m : Md} {vs : List Int} {l : List Ru} {i : Nat} {out : List Int} (h : i < l.length) (ho : afterF m l[i] vs = some out) : codesL m vs (l.take (i + 1)) = codesL m vs (l.take i) ++ [(codeF m out).1] := by
  rw [codesL_succ m vs l i h, ho]
theorem codesL_len (m : Md) (vs : List Int) (l : List Ru) : (codesL m vs l).length ≤ l.length := List.length_filterMap_le _ _
theorem compact_len (l : List Int) (n : Nat) (hn : l.length ≤ n) : (Lib.compact l).length ≤ n := by
  unfold Lib.compact Lib.compactUpTo
  rw [List.length_map]
  exact Nat.le_trans (List.length_filter_le _ _) (by simpa using hn)
theorem upTo_succ (k : Nat) (l : List Int) : upTo (k + 1) l = upTo k l ++ (if (k : Int) ∈ l then [(k : Int)] else []) := by
  unfold upTo
  rw [List.range_succ, List.filter_append, List.map_append]
  by_cases h : (k : Int) ∈ l <;> simp [h]
theorem upTo_len (k : Nat) (l : List Int) : (upTo k l).length ≤ k := by
  unfold upTo
  rw [List.length_map]
  exact Nat.le_trans (List.length_filter_le _ _) (by simp)
theorem upTo_nil (n : Nat) : upTo n [] = [] := by
  unfold upTo; simp
def isR (n : Nat) (l : List Int) : List Bool := (List.range n).map fun c : Nat => decide ((c : Int) ∈ l)
theorem isR_nil (n : Nat) : isR n [] = List.replicate n false := by
  unfold isR
  refine List.ext_getElem (by simp) fun i h1 h2 => ?_
  simp
theorem isR_len (n : Nat) (l : List Int) : (isR n l).length = n := by simp [isR]
theorem isR_get (n : Nat) (l : List Int) (i : Nat) (h : i < (isR n l).length) : (isR n l)[i] = decide ((i : Int) ∈ l) := by simp [isR]
theorem isR_put (n : Nat) (l : List Int) (c : Int) (h0 : 0 ≤ c) : (isR n l).set c.toNat true = isR n (l ++ [c]) := by
  refine List.ext_getElem (by simp [isR]) fun i h1 h2 => ?_
  rw [List.getElem_set, isR_get]
  by_cases h : c.toNat = i
  · rw [if_pos h]
    have : (i : Int) = c := by omega
    rw [isR_get]
    simp [this]
  · rw [if_neg h, isR_get]
    have : ¬ (i : Int) = c := by omega
    simp [this]
theorem nextF_err {m : Md} {c : Int} (h : (valsF m c).2 ≠ 0) : nextF m c = ([], (valsF m c).2) := by unfold nextF; rw [if_pos h]
theorem nextF_ok {m : Md} {c : Int} (h : (valsF m c).2 = 0) : nextF m c = (if codesL m (valsT m.vars c) m.rules = [] then [c] else upTo (prodV m.vars).toNat (codesL m (valsT m.vars c) m.rules), 0) := by
  obtain ⟨_, _, _, e⟩ := valsF_ok h
  unfold nextF
  rw [if_neg (fun k => k h), e]
theorem modelF_few {m : Md} (h : modelF m = 0) : m.rules.length ≤ 12 := by
  have hv := modelF_vars h
  unfold modelF at h
  rw [if_neg (fun k => k hv)] at h
  by_cases c : 12 < m.rules.length
  · rw [if_pos c] at h; exact absurd h (by decide)
  · omega
theorem afterC_at {m : Md} {code : Int} {vs : List Int} (hv : valsF m code = (vs, 0)) (i : Nat) (h : i < m.rules.length) : (afterF m m.rules[i] vs = none → afterC m code i = (0, 11)) ∧ ∀ out, afterF m m.rules[i] vs = some out → afterC m code i = codeF m out := by
  have e := afterC_yes hv (rule := i) (by omega) (by simpa using h)
  simp only [Int.toNat_natCast] at e
  rw [e]
  exact ⟨fun ho => by rw [ho], fun out ho => by rw [ho]⟩
theorem states_nat {m : Md} (h : modelF m = 0) : ∃ n : Nat, prodV m.vars = n ∧ 1 ≤ n ∧ n ≤ 4096 := by
  have g := goodV (modelF_vars h)
  have h1 := prodV_pos fun v hv => (g.span v hv).1
  have h2 := g.all
  exact ⟨(prodV m.vars).toNat, by omega, by omega, by omega⟩
end Go.Sp
namespace Go.Sp
open Go Go.Av
set_option linter.unusedVariables false
set_option linter.unusedSimpArgs false

noncomputable def nxM (m : Md) (c : Nat) : List Nat := (nextF m c).1.map Int.toNat
structure RM (m : Md) (n : Nat) (i : Nat) (xs : List Int) : Prop where
  nodup : xs.Nodup
  range : ∀ x ∈ xs, 0 ≤ x ∧ x < n
  sound : ∀ x ∈ xs, fromP (nxM m) [(firstF m).toNat] x.toNat
  first : firstF m ∈ xs
  done : ∀ (j : Nat) (h : j < xs.length), j < i → ∀ y ∈ (nextF m xs[j]).1, y ∈ xs
end Go.Sp
namespace Go.Sp
open Go Go.Av
set_option linter.unusedVariables false
set_option linter.unusedSimpArgs false

def at0 (l : List Int) (i : Nat) : Int := (l[i]?).getD 0
theorem at0_get (l : List Int) (i : Nat) (h : i < l.length) : at0 l i = l[i] := by simp [at0, List.getElem?_eq_getElem h]
def leadsP (m : Md) (n : Nat) (A : List Int) (i : Nat) : Prop := (0 ≤ at0 A i ∧ at0 A i < n) ∧ at0 A (i + 1) ∈ (nextF m (at0 A i)).1
def runsP (m : Md) (n : Nat) (A : List Int) : Prop := ∀ i, i + 1 < A.length → leadsP m n A i
noncomputable instance (m : Md) (n : Nat) (A : List Int) : Decidable (runsP m n A) := Classical.propDecidable _
def roundL (stem loop : List Int) : List Int := stem ++ loop ++ loop.take 1
noncomputable def runF (m : Md) (stem loop : List Int) : Bool × Int :=
  if modelF m ≠ 0 then (false, modelF m)
  else if loop = [] ∨ (stem ++ loop).head? ≠ some (firstF m) then (false, 0)
  else (decide (runsP m (prodV m.vars).toNat (roundL stem loop)), 0)
theorem runF_no {m : Md} {stem loop : List Int} (h0 : modelF m = 0) (h : loop = [] ∨ (stem ++ loop).head? ≠ some (firstF m)) : runF m stem loop = (false, 0) := by
  unfold runF; rw [if_neg (fun k => k h0), if_pos h]
theorem runF_at {m : Md} {n : Nat} {stem loop : List Int} {b : Bool} (h0 : modelF m = 0) (hn : prodV m.vars = n) (h1 : loop ≠ []) (h2 : (stem ++ loop).head? = some (firstF m)) (hb : b = true ↔ runsP m n (roundL stem loop)) : runF m stem loop = (b, 0) := by
  unfold runF
  rw [if_neg (fun k => k h0), if_neg (fun k => k.elim h1 fun k => k h2), hn, Int.toNat_natCast]
  congr 1
  cases b with
  | true => exact decide_eq_true (hb.1 rfl)
  | false => exact decide_eq_false fun k => by have := hb.2 k; cases this
end Go.Sp
namespace Go.Av
open Go
set_option linter.unusedVariables false
set_option linter.unusedSimpArgs false

section
variable {k : Kx} {Q : Exit → Env → H → Prop} {ρ : Env} {h : H} {ops : Array Oper} {l : List Oper} {d : Nat} {ty : TypeId} {pos : String} {after : Array Edge}
theorem jeq_nil {α : Type} {f : α → List D} {xs : List α} {T T' E : TypeId} {x y : Operand} {sz eb : Nat} (hx : evO ρ x = some (.d (.l sz eb (xs.map f)))) (hy : evO ρ y = some (.val (.slice none 0 0))) (hT : k.P.underlying T = some (.slice E)) (hd : Nat.blt d k.n = true)
    (hj : Two (Imp (xs = []) (JL k ops l Q ((d, .bool true) :: ρ) h)) (JL k ops l Q ((d, .bool false) :: ρ) h)) : JL k ops (⟨some d, .binOp .eql T x y T', ty, pos, after, none⟩ :: l) Q ρ h := by
  refine JL_eff rfl (fun t ht => by cases ht; exact blt hd) fun I a w h1 h2 => ?_
  have ex : Rel w I (.l sz eb (xs.map f)) (a.eval x) := by have := h2.ev x; rw [ev_of_evO hx] at this; exact this
  have ey : a.eval y = .slice none 0 0 := rel_val (h2.ev y) (ev_of_evO hy)
  have key : ∀ (ad : Option Addr) (n c : Nat), a.eval x = .slice ad n c → (execOp a.eval ⟨some d, .binOp .eql T x y T', ty, pos, after, none⟩).run k.P w = .ok (.value (.bool ad.isNone)) w := by
    intro ad n c e
    have r : (binOp .eql T (.slice ad n c) (.slice none 0 0)).run k.P w = .ok (.bool ad.isNone) w := by
      simp only [binOp]
      simp [run_equal_slice_nil w T E ad n c hT]
    simp [execOp, e, ey, eqGuard_at_slice, r]
  have go : ∀ b, (b = true → xs = []) → JL k ops l Q (put ρ (some d) (.bool b)) h := by
    intro b hb
    cases b with
    | true => exact hj.1.get (hb rfl)
    | false => exact hj.2
  generalize hR : xs.map f = R at ex
  generalize hv : a.eval x = v at ex key
  cases ex with
  | nil => exact ⟨_, w, I, .bool true, h, key _ _ _ rfl, h1, h2, rfl, go true fun _ => List.map_eq_nil_iff.1 hR⟩
  | emp => exact ⟨_, w, I, .bool false, h, key _ _ _ rfl, h1, h2, rfl, go false fun h => (by cases h)⟩
  | l => exact ⟨_, w, I, .bool false, h, key _ _ _ rfl, h1, h2, rfl, go false fun h => (by cases h)⟩
end
end Go.Av
namespace Go.Proofs.YtcikppldaepodaaGreatDoor
open Go Go.Av Go.Sp
set_option linter.unusedVariables false
set_option linter.unusedSimpArgs false
set_option maxRecDepth 100000
set_option maxHeartbeats 4000000
theorem cal_CloneI : Cal Tryz.prog 243 := Cal.of Tryz.func243 (by kernel_rfl) (by kernel_rfl)
theorem cal_after : Cal Tryz.prog 195 := Cal.of Tryz.func195 (by kernel_rfl) (by kernel_rfl)
theorem cal_AfterRule : Cal Tryz.prog 114 := Cal.of Tryz.func114 (by kernel_rfl) (by kernel_rfl)
theorem CloneI (G : List (Nat × List D)) (xs : List Int) : AC Tryz.prog G 243 [.d (intsD xs)] [] fun r h => ∃ q : Sl, r = .ret (.val q.v) ∧ h = [rowE q.v 3 1 intC xs] := by
  refine AC_ofV (ts := [2]) Tryz.f243.ntmps Tryz.func243 rfl rfl rfl (by simp [Tryz.ntmps243]) fun W I => ?_
  refine jfact (t := 0) rfl fun hl => ?_
  all_goals haveI fA_ : FlagA := ⟨⟩
  repeat' (first
    | ((with_reducible apply jeq_nil); (focus rfl); (focus rfl); (focus rfl); (focus rfl))
    | ((with_reducible apply (jbuild0S intC)); (focus rfl); (focus (with_reducible exact ElC.h)); (focus rfl))
    | exact True.intro
    | refine stp ?_
    | refine two ?_ ?_
    | (refine imp fun hc => ?_) <;> try (first | contradiction | (exfalso; omega))
    | refine all fun v_ => ?_)
  all_goals clear fA_
  · subst hc
    refine retv (VS.nilrow 3 1) ?_
    ((with_reducible apply rq1); rfl; rfl)
    exact ⟨Sl.nil, rfl, rfl⟩
  · refine retv0 ?_
    ((with_reducible apply rq1); rfl; rfl)
    exact ⟨v_, rfl, rfl⟩
theorem after (m : Md) (hm : modelF m = 0) (r : Ru) (hr : r ∈ m.rules) (vs : List Int) (g : InV m vs) : ACr Tryz.prog GP 195 [mdA m, ruA r, .d (intsD vs)] (.tup [.d (intsD ((afterF m r vs).getD [])), .bool (afterF m r vs).isSome]) := by
  have gr := goodR hm hr
  have hl6 := varsF_len (modelF_vars hm)
  have hln := g.len
  have hfew := gr.few
  have hG := Eval r.guard vs
  refine AC_ofV (ts := [6, 7]) Tryz.f195.ntmps Tryz.func195 rfl rfl rfl (by simp [Tryz.ntmps195]) fun W I => ?_
  have hb := evalF_bit (l := r.guard) (vs := vs) (by rw [hln]; exact gr.guard) (g.lim hm)
  by_cases h0 : evalF r.guard vs ≠ (1, 0)
  · rw [afterF_guard h0]
    rcases hb with hb | hb | hb
    · rw [hb] at hG
      dsimp only at hG
      all_goals haveI fA_ : FlagA := ⟨⟩
      all_goals haveI fH_ : FlagH := ⟨⟩
      repeat' (first
        | ((with_reducible apply call0); (focus rfl); (focus exact cal_Eval); (focus exact hG); (focus rfl))
        | ((with_reducible apply je_call0); (focus rfl); (focus (decide +kernel)); (focus rfl); (focus exact cal_Eval); (focus exact hG); (focus rfl))
        | exact True.intro
        | refine stp ?_
        | refine two ?_ ?_
        | refine allc fun c_ => ?_
        | (refine imp fun hc => ?_) <;> try (first | contradiction | (exfalso; omega) | (exfalso; exact absurd (of_dT hc) (by assumption)) | (exfalso; exact of_dF hc (by assumption)))
        | refine all fun v_ => ?_)
      all_goals clear fA_ fH_
      refine retv (VS.trans (VS.drop (List.nil_sublist _)) (vnil (t := 6) 1 8 rfl)) ?_
      ((with_reducible apply rq2); rfl; rfl; rfl)
      exact ret_eq rfl
    · rw [hb] at hG
      dsimp only at hG
      all_goals haveI fA_ : FlagA := ⟨⟩
      all_goals haveI fH_ : FlagH := ⟨⟩
      repeat' (first
        | ((with_reducible apply call0); (focus rfl); (focus exact cal_Eval); (focus exact hG); (focus rfl))
        | ((with_reducible apply je_call0); (focus rfl); (focus (decide +kernel)); (focus rfl); (focus exact cal_Eval); (focus exact hG); (focus rfl))
        | exact True.intro
        | refine stp ?_
        | refine two ?_ ?_
        | refine allc fun c_ => ?_
        | (refine imp fun hc => ?_) <;> try (first | contradiction | (exfalso; omega) | (exfalso; exact absurd (of_dT hc) (by assumption)) | (exfalso; exact of_dF hc (by assumption)))
        | refine all fun v_ => ?_)
      all_goals clear fA_ fH_
      refine retv (VS.trans (VS.drop (List.nil_sublist _)) (vnil (t := 6) 1 8 rfl)) ?_
      ((with_reducible apply rq2); rfl; rfl; rfl)
      exact ret_eq rfl
    · exact absurd hb h0
  replace h0 := Decidable.not_not.1 h0
  rw [h0] at hG
  dsimp only at hG
  all_goals haveI fA_ : FlagA := ⟨⟩
  all_goals haveI fH_ : FlagH := ⟨⟩
  repeat' (first
    | ((with_reducible apply call0); (focus rfl); (focus exact cal_Eval); (focus exact hG); (focus rfl))
    | ((with_reducible apply je_call0); (focus rfl); (focus (decide +kernel)); (focus rfl); (focus exact cal_Eval); (focus exact hG); (focus rfl))
    | ((with_reducible apply callE1); (focus rfl); (focus exact cal_CloneI); (focus exact CloneI _ _); (focus rfl))
    | ((with_reducible apply je_callE); (focus rfl); (focus (decide +kernel)); (focus rfl); (focus exact cal_CloneI); (focus exact CloneI _ _); (focus rfl))
    | exact True.intro
    | refine stp ?_
    | refine two ?_ ?_
    | refine allc fun c_ => ?_
    | (refine imp fun hc => ?_) <;> try (first | contradiction | (exfalso; omega) | (exfalso; exact absurd (of_dT hc) (by assumption)) | (exfalso; exact of_dF hc (by assumption)))
    | refine all fun v_ => ?_)
  all_goals clear fA_ fH_
  rename_i bm br _
  refine J_loopV (X := Nat) (fun i => [(2, .d (intsD vs)), (3, .val (.pointer (some ⟨bm, 0, none⟩))), (10, .val v_.v), (32, .d (setsD r.sets)), (33, .int r.sets.length), (34, .int i)]) (fun i => [rowE v_.v 3 1 intC (setAll vs (r.sets.take i) vs), .cells bm 25 [.d (varsD m.vars), .d (rulesD m.rules)]]) (fun i => i ≤ r.sets.length ∧ ∀ s ∈ r.sets.take i, setOk m vs s) (fun i => r.sets.length - i) 0 ⟨Nat.zero_le _, fun s hs => (by cases hs)⟩ (VS.take (by ((repeat (first | exact Take.nil | ((with_reducible apply Take.cons); (focus ((repeat (first | exact Sel.here | with_reducible apply Sel.there)); done))))); done)) ?_) ?_
  · repeat (first
      | exact Env.le_nil _
      | refine Env.le_cons (AV.le_refl _) ?_
      | refine Env.le_cons (AV.le_int rfl (by first | rfl | omega | (dsimp only; omega))) ?_)
  rintro i ⟨hi, hok⟩
  have hsl := setAll_length vs (r.sets.take i) vs
  by_cases hil : i < r.sets.length
  · have hs := List.getElem_mem hil
    obtain ⟨a1, a2, a3⟩ := gr.sets _ hs
    have a4 : r.sets[i].var.toNat < m.vars.length := by omega
    have hE := Eval r.sets[i].val vs
    have hx := fun n e (he : evalF r.sets[i].val vs = (n, e)) => setOk_iff (m := m) (vs := vs) (s := r.sets[i]) (n := n) (e := e) he (by omega)
    have hn := setAll_succ vs r.sets i hil
    generalize evalF r.sets[i].val vs = p at hE hx hn
    obtain ⟨n, e⟩ := p
    have hx := hx n e rfl
    dsimp only at hE hn
    by_cases hgood : setOk m vs r.sets[i]
    · have hx := hx.1 hgood
      obtain ⟨rfl, x1, x2⟩ := hx
      all_goals haveI fA_ : FlagA := ⟨⟩
      all_goals haveI fH_ : FlagH := ⟨⟩
      repeat' (first
        | ((with_reducible apply call0); (focus rfl); (focus exact cal_Eval); (focus exact hE); (focus rfl))
        | ((with_reducible apply je_call0); (focus rfl); (focus (decide +kernel)); (focus rfl); (focus exact cal_Eval); (focus exact hE); (focus rfl))
        | exact True.intro
        | refine stp ?_
        | refine two ?_ ?_
        | refine allc fun c_ => ?_
        | (refine imp fun hc => ?_) <;> try (first | contradiction | (exfalso; omega) | (exfalso; exact absurd (of_dT hc) (by assumption)) | (exfalso; exact of_dF hc (by assumption)))
        | refine all fun v_ => ?_)
      all_goals clear fA_ fH_
      refine ⟨i + 1, ⟨by omega, fun s h => ?_⟩, by omega, ?_⟩
      · rw [List.take_succ_eq_append_getElem hil] at h
        rcases List.mem_append.1 h with h | h
        · exact hok s h
        · rw [List.mem_singleton.1 h]; exact hgood
      · rw [hn]
        refine VS.take (by ((repeat (first | exact Take.nil | ((with_reducible apply Take.cons); (focus ((repeat (first | exact Sel.here | with_reducible apply Sel.there)); done))))); done)) ?_
        repeat (first
          | exact Env.le_nil _
          | refine Env.le_cons (AV.le_refl _) ?_
          | refine Env.le_cons (AV.le_int rfl (by first | rfl | omega | (dsimp only; omega))) ?_)
    · rw [afterF_set hs hgood]
      by_cases x0 : e ≠ 0
      · all_goals haveI fA_ : FlagA := ⟨⟩
        all_goals haveI fH_ : FlagH := ⟨⟩
        repeat' (first
          | ((with_reducible apply call0); (focus rfl); (focus exact cal_Eval); (focus exact hE); (focus rfl))
          | ((with_reducible apply je_call0); (focus rfl); (focus (decide +kernel)); (focus rfl); (focus exact cal_Eval); (focus exact hE); (focus rfl))
          | exact True.intro
          | refine stp ?_
          | refine two ?_ ?_
          | refine allc fun c_ => ?_
          | (refine imp fun hc => ?_) <;> try (first | contradiction | (exfalso; omega) | (exfalso; exact absurd (of_dT hc) (by assumption)) | (exfalso; exact of_dF hc (by assumption)))
          | refine all fun v_ => ?_)
        all_goals clear fA_ fH_
        refine retv (VS.trans (VS.drop (List.nil_sublist _)) (vnil (t := 6) 1 8 rfl)) ?_
        ((with_reducible apply rq2); rfl; rfl; rfl)
        exact ret_eq rfl
      replace x0 := Decidable.not_not.1 x0
      subst x0
      by_cases x1 : n < m.vars[r.sets[i].var.toNat].low
      · all_goals haveI fA_ : FlagA := ⟨⟩
        all_goals haveI fH_ : FlagH := ⟨⟩
        repeat' (first
          | ((with_reducible apply call0); (focus rfl); (focus exact cal_Eval); (focus exact hE); (focus rfl))
          | ((with_reducible apply je_call0); (focus rfl); (focus (decide +kernel)); (focus rfl); (focus exact cal_Eval); (focus exact hE); (focus rfl))
          | exact True.intro
          | refine stp ?_
          | refine two ?_ ?_
          | refine allc fun c_ => ?_
          | (refine imp fun hc => ?_) <;> try (first | contradiction | (exfalso; omega) | (exfalso; exact absurd (of_dT hc) (by assumption)) | (exfalso; exact of_dF hc (by assumption)))
          | refine all fun v_ => ?_)
        all_goals clear fA_ fH_
        refine retv (VS.trans (VS.drop (List.nil_sublist _)) (vnil (t := 6) 1 8 rfl)) ?_
        ((with_reducible apply rq2); rfl; rfl; rfl)
        exact ret_eq rfl
      by_cases x2 : m.vars[r.sets[i].var.toNat].high < n
      · all_goals haveI fA_ : FlagA := ⟨⟩
        all_goals haveI fH_ : FlagH := ⟨⟩
        repeat' (first
          | ((with_reducible apply call0); (focus rfl); (focus exact cal_Eval); (focus exact hE); (focus rfl))
          | ((with_reducible apply je_call0); (focus rfl); (focus (decide +kernel)); (focus rfl); (focus exact cal_Eval); (focus exact hE); (focus rfl))
          | exact True.intro
          | refine stp ?_
          | refine two ?_ ?_
          | refine allc fun c_ => ?_
          | (refine imp fun hc => ?_) <;> try (first | contradiction | (exfalso; omega) | (exfalso; exact absurd (of_dT hc) (by assumption)) | (exfalso; exact of_dF hc (by assumption)))
          | refine all fun v_ => ?_)
        all_goals clear fA_ fH_
        refine retv (VS.trans (VS.drop (List.nil_sublist _)) (vnil (t := 6) 1 8 rfl)) ?_
        ((with_reducible apply rq2); rfl; rfl; rfl)
        exact ret_eq rfl
      exact absurd (hx.2 ⟨rfl, by omega, by omega⟩) hgood
  obtain rfl : i = r.sets.length := by omega
  rw [List.take_length] at hok hsl ⊢
  rw [afterF_some h0 hok]
  all_goals haveI fA_ : FlagA := ⟨⟩
  all_goals haveI fH_ : FlagH := ⟨⟩
  repeat' (first
    | exact True.intro
    | refine stp ?_
    | refine two ?_ ?_
    | refine allc fun c_ => ?_
    | (refine imp fun hc => ?_) <;> try (first | contradiction | (exfalso; omega) | (exfalso; exact absurd (of_dT hc) (by assumption)) | (exfalso; exact of_dF hc (by assumption)))
    | refine all fun v_ => ?_)
  all_goals clear fA_ fH_
  refine retv (VS.trans (vfreeze (t := 6) (eb := 8) rfl rfl (fun x => rfl) (by omega)) (VS.drop (List.nil_sublist _))) ?_
  ((with_reducible apply rq2); rfl; rfl; rfl)
  exact ret_eq rfl
end Go.Proofs.YtcikppldaepodaaGreatDoor
namespace Go.Proofs
open Go.Shelf
set_option linter.unusedVariables false
set_option linter.unusedSimpArgs false
def Tryz.lays189_ren : Go.Shelf.Ren := ⟨fun | 189 => 196 | 125 => 245 | 257 => 244 | 128 => 279 | 129 => 280 | 294 => 271 | 295 => 272 | 296 => 273 | 297 => 274 | 298 => 275 | 299 => 276 | 216 => 269 | 300 => 277 | 301 => 278 | 328 => 291 | 329 => 292 | 330 => 293 | 331 => 294 | 332 => 295 | 215 => 290 | 343 => 298 | n => n, fun | 28 => 30 | 3 => 3 | 46 => 284 | 0 => 0 | 51 => 321 | 53 => 299 | 4 => 4 | 183 => 315 | 182 => 314 | 131 => 86 | 5 => 5 | 9 => 9 | 218 => 335 | 222 => 339 | 228 => 341 | 229 => 342 | n => n, fun | n => n⟩
theorem Tryz.lays189 : Go.Proofs.Lays.n189 Tryz.prog Tryz.lays189_ren := {
  mixed := by kernel_rfl
  f125 := Tryz.func245.trans (congrArg some (by kernel_rfl))
  f128 := Tryz.func279.trans (congrArg some (by kernel_rfl))
  f129 := Tryz.func280.trans (congrArg some (by kernel_rfl))
  f189 := Tryz.func196.trans (congrArg some (by kernel_rfl))
  f215 := Tryz.func290.trans (congrArg some (by kernel_rfl))
  f216 := Tryz.func269.trans (congrArg some (by kernel_rfl))
  f257 := Tryz.func244.trans (congrArg some (by kernel_rfl))
  f294 := Tryz.func271.trans (congrArg some (by kernel_rfl))
  f295 := Tryz.func272.trans (congrArg some (by kernel_rfl))
  f296 := Tryz.func273.trans (congrArg some (by kernel_rfl))
  f297 := Tryz.func274.trans (congrArg some (by kernel_rfl))
  f298 := Tryz.func275.trans (congrArg some (by kernel_rfl))
  f299 := Tryz.func276.trans (congrArg some (by kernel_rfl))
  f300 := Tryz.func277.trans (congrArg some (by kernel_rfl))
  f301 := Tryz.func278.trans (congrArg some (by kernel_rfl))
  f328 := Tryz.func291.trans (congrArg some (by kernel_rfl))
  f329 := Tryz.func292.trans (congrArg some (by kernel_rfl))
  f330 := Tryz.func293.trans (congrArg some (by kernel_rfl))
  f331 := Tryz.func294.trans (congrArg some (by kernel_rfl))
  f332 := Tryz.func295.trans (congrArg some (by kernel_rfl))
  f343 := Tryz.func298.trans (congrArg some (by kernel_rfl))
  t0 := Tryz.underlying0
  a0 := Tryz.isAgg0
  z0 := Tryz.sizeOf0
  v0 := Tryz.zeroValue0
  t3 := Tryz.underlying3
  a3 := Tryz.isAgg3
  z3 := Tryz.sizeOf3
  v3 := Tryz.zeroValue3
  t4 := Tryz.underlying4
  a4 := Tryz.isAgg4
  z4 := Tryz.sizeOf4
  v4 := Tryz.zeroValue4
  t5 := Tryz.underlying5
  a5 := Tryz.isAgg5
  z5 := Tryz.sizeOf5
  v5 := Tryz.zeroValue5
  t9 := Tryz.underlying9
  a9 := Tryz.isAgg9
  z9 := Tryz.sizeOf9
  v9 := Tryz.zeroValue9
  t28 := Tryz.underlying30
  a28 := Tryz.isAgg30
  z28 := Tryz.sizeOf30
  v28 := Tryz.zeroValue30
  t46 := Tryz.underlying284
  a46 := Tryz.isAgg284
  z46 := Tryz.sizeOf284
  v46 := Tryz.zeroValue284
  t51 := Tryz.underlying321
  a51 := Tryz.isAgg321
  z51 := Tryz.sizeOf321
  v51 := Tryz.zeroValue321
  t53 := Tryz.underlying299
  a53 := Tryz.isAgg299
  z53 := Tryz.sizeOf299
  v53 := Tryz.zeroValue299
  t131 := Tryz.underlying86
  a131 := Tryz.isAgg86
  z131 := Tryz.sizeOf86
  v131 := Tryz.zeroValue86
  t182 := Tryz.underlying314
  a182 := Tryz.isAgg314
  z182 := Tryz.sizeOf314
  v182 := Tryz.zeroValue314
  t183 := Tryz.underlying315
  a183 := Tryz.isAgg315
  z183 := Tryz.sizeOf315
  v183 := Tryz.zeroValue315
  t218 := Tryz.underlying335
  a218 := Tryz.isAgg335
  z218 := Tryz.sizeOf335
  v218 := Tryz.zeroValue335
  t222 := Tryz.underlying339
  a222 := Tryz.isAgg339
  z222 := Tryz.sizeOf339
  v222 := Tryz.zeroValue339
  t228 := Tryz.underlying341
  a228 := Tryz.isAgg341
  z228 := Tryz.sizeOf341
  v228 := Tryz.zeroValue341
  t229 := Tryz.underlying342
  a229 := Tryz.isAgg342
  z229 := Tryz.sizeOf342
  v229 := Tryz.zeroValue342 }
def Tryz.lays20_ren : Go.Shelf.Ren := ⟨fun | 20 => 197 | n => n, fun | 22 => 30 | 3 => 3 | 4 => 4 | 0 => 0 | n => n, fun | n => n⟩
theorem Tryz.lays20 : Go.Proofs.Lays2.n20 Tryz.prog Tryz.lays20_ren := {
  mixed := by kernel_rfl
  f20 := Tryz.func197.trans (congrArg some (by kernel_rfl))
  t0 := Tryz.underlying0
  a0 := Tryz.isAgg0
  z0 := Tryz.sizeOf0
  v0 := Tryz.zeroValue0
  t3 := Tryz.underlying3
  a3 := Tryz.isAgg3
  z3 := Tryz.sizeOf3
  v3 := Tryz.zeroValue3
  t4 := Tryz.underlying4
  a4 := Tryz.isAgg4
  z4 := Tryz.sizeOf4
  v4 := Tryz.zeroValue4
  t22 := Tryz.underlying30
  a22 := Tryz.isAgg30
  z22 := Tryz.sizeOf30
  v22 := Tryz.zeroValue30
  i3 := by kernel_rfl }
end Go.Proofs
