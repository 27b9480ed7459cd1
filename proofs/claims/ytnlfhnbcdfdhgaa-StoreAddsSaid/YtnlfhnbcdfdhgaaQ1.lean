/-
 PLAIN, NO PROGRAM: the library's sort of ints, told as a contract over an own row.
-/
import Derived.Test.YtnlfhnbcdfdhgaaE7
import Derived.Test.YtnlfhnbcdfdhgaaS1
import Derived.Sort.OwnSortedInts
import Derived.Lib.SlicesCompact
namespace Go.Av
open Go Go.Sort Go.Proofs Go.Sp
set_option linter.unusedVariables false
set_option linter.unusedSimpArgs false

abbrev sortI (l : List Int) : List Int := l.mergeSort fun x y => decide (x ≤ y)
theorem ints_rels {w : World} {I : Nat → Prop} : ∀ {xs : List Int} {us : List Value}, AV.rels w I ((xs.map intC).flatten.map D.av) us → us = xs.map (Value.int .i64)
 | [], [], _ => rfl
 | [], _ :: _, h => h.elim
 | x :: xs, [], h => h.elim
 | x :: xs, u :: us, h => by
   obtain ⟨h1, h2⟩ := h
   rw [List.map_cons, ← ints_rels h2, show u = .int .i64 x from h1]
theorem rels_ints (w : World) (I : Nat → Prop) : ∀ xs : List Int, AV.rels w I ((xs.map intC).flatten.map D.av) (xs.map (Value.int .i64))
 | [] => trivial
 | x :: xs => ⟨rfl, rels_ints w I xs⟩
/-- What sorts a slice's cells, and leaves what is none, sorts an own row. -/
theorem AC_sortI {P : Program} {G : List (Nat × List D)} {f : FuncId} {E : TypeId} (q : Sl) (xs : List Int) (hbig : xs.length < 4611686018427387904)
 (hc : ∀ (blk cap : Nat) (zs : List Int) (w : World), Holds (Value.int .i64) w blk 0 zs.toArray → blk < w.heap.size → zs.length < 4611686018427387904 → Calls P f #[.slice (some ⟨blk, 0, none⟩) zs.length cap] w fun e w' => e = .returned (.tuple #[]) ∧ ∃ n os, w' = grow (putRow (Value.int .i64) (Sort.ahead w n) blk 0 (sortI zs).toArray) os)
 (hn : ∀ w : World, Calls P f #[.slice none 0 0] w fun e w' => e = .returned (.tuple #[]) ∧ w' = w) :
 AC P G f [.val q.v] [rowE q.v E 1 intC xs] fun e h => e = .ret (.tup []) ∧ h = [rowE q.v E 1 intC (sortI xs)] := by
 intro I W vs h1 h2 h3 h4 h5
 obtain ⟨v, rfl⟩ : ∃ v, vs = [v] := by
  cases vs with
  | nil => exact h5.elim
  | cons v t => cases t with
    | nil => exact ⟨v, rfl⟩
    | cons _ _ => exact h5.2.elim
 obtain rfl : v = q.v := h5.1
 obtain ⟨us, ho, hr⟩ := h1 _ List.mem_cons_self
 obtain rfl := ints_rels hr
 have hls : (sortI xs).length = xs.length := List.length_mergeSort _
 rcases ho.2 with ⟨e1, e2⟩ | ⟨g, cap, cur, e1, e2, e3, e4, e5, e6, e7⟩
 · obtain rfl : xs = [] := List.length_eq_zero_iff.1 e2
   have hz : sortI ([] : List Int) = [] := by simp [sortI]
   rw [e1, hz]
   refine (hn W).mono ?_
   rintro e w' ⟨rfl, rfl⟩
   refine ⟨_, _, I, ⟨rfl, rfl⟩, ⟨fun e he => ?_, List.nodup_nil, fun b hb => ⟨(h3 b hb).1, (fun k => by cases k)⟩, fun b hb => (by cases hb), fun b hb => .inl hb, fun b hb => hb, rfl, rfl, rfl, Nat.le_refl _, fun _ _ _ => rfl, h4⟩, ⟨[], rfl, trivial⟩⟩
   obtain rfl := List.mem_singleton.1 he
   exact ⟨[], ⟨rfl, .inl ⟨rfl, rfl⟩⟩, trivial⟩
 · have hq : q = ⟨some ⟨g, 0, none⟩, xs.length, cap⟩ := by
    have h := e1
    simp only [Sl.v, Value.slice.injEq] at h
    obtain ⟨a, b, c⟩ := h
    cases q; simp_all
   subst hq
   have hbl : ∀ ys : List Int, blks [rowE (Sl.v ⟨some ⟨g, 0, none⟩, xs.length, cap⟩) E 1 intC ys] = [g] := fun ys => rfl
   have hgs : g < W.heap.size := (Array.getElem?_eq_some_iff.1 e3).1
   refine (hc g cap xs W (holds_of_blockI e3 (by rw [Nat.mul_one] at e7; exact e7)) hgs hbig).mono ?_
   rintro e w' ⟨rfl, n, os, rfl⟩
   have hg := grownBy_sortedI (w := W) (g := g) (n := n) (os := os) (sortI xs).toArray
   have hkeep : ∀ b, I b → (grow (putRow (Value.int .i64) (Sort.ahead W n) g 0 (sortI xs).toArray) os).heap[b]? = W.heap[b]? := fun b hb => by
    refine hg.block b (h3 b hb).1 fun e => ?_
    have := (h3 b hb).2
    rw [hbl] at this
    exact this (by rw [Option.some.inj e]; exact List.mem_singleton.2 rfl)
   refine ⟨_, _, I, ⟨rfl, rfl⟩, ⟨fun e he => ?_, ?_, fun b hb => ⟨Nat.lt_of_lt_of_le (h3 b hb).1 hg.size, ?_⟩, fun b hb => ?_, fun b hb => .inl hb, fun b hb => hb, hg.os, hg.tape, hg.output, hg.size, fun b hb hne => ?_, fun q hq => PD.mono hkeep (fun _ h => h) (h4 q hq)⟩, ⟨[], rfl, trivial⟩⟩
   · obtain rfl := List.mem_singleton.1 he
     have hos := ownsRow_sortedI (n := n) (os := os) (base := 0) hls (Nat.zero_le g) e3 e4 e5 e6
     refine ⟨(sortI xs).map (Value.int .i64), ?_, rels_ints _ _ _⟩
     rw [hls]; exact hos
   · rw [hbl]; simp
   · have := (h3 b hb).2
     rw [hbl] at this ⊢; exact this
   · rw [hbl] at hb; rw [hbl]; exact .inl hb
   · refine hg.block b hb fun e => hne ?_
     rw [hbl, Option.some.inj e]; exact List.mem_singleton.2 rfl
/-- What cuts a slice to its elements without neighbours alike cuts an own row so. -/
theorem AC_compactI {P : Program} {G : List (Nat × List D)} {f : FuncId} {E : TypeId} (q : Sl) (xs : List Int) (hbig : xs.length ≤ 9223372036854775807) (hk : (Lib.compact xs).length ≤ xs.length)
 (hc : ∀ (blk cap : Nat) (zs : List Int) (w : World), Holds (Value.int .i64) w blk 0 zs.toArray → zs.length ≤ 9223372036854775807 → zs.length ≤ cap → Calls P f #[.slice (some ⟨blk, 0, none⟩) zs.length cap] w fun e w' => e = .returned (.slice (some ⟨blk, 0, none⟩) (Lib.compact zs).length cap) ∧ ∃ q, w' = putRow (Value.int .i64) (Sort.ahead w q) blk 0 (Lib.compact zs ++ List.replicate (zs.length - (Lib.compact zs).length) 0).toArray)
 (hn : ∀ w : World, Calls P f #[.slice none 0 0] w fun e w' => e = .returned (.slice none 0 0) ∧ w' = w) :
 AC P G f [.val q.v] [rowE q.v E 1 intC xs] fun e h => ∃ q' : Sl, e = .ret (.val q'.v) ∧ h = [rowE q'.v E 1 intC (Lib.compact xs)] := by
 intro I W vs h1 h2 h3 h4 h5
 obtain ⟨v, rfl⟩ : ∃ v, vs = [v] := by
  cases vs with
  | nil => exact h5.elim
  | cons v t => cases t with
    | nil => exact ⟨v, rfl⟩
    | cons _ _ => exact h5.2.elim
 obtain rfl : v = q.v := h5.1
 obtain ⟨us, ho, hr⟩ := h1 _ List.mem_cons_self
 obtain rfl := ints_rels hr
 rcases ho.2 with ⟨e1, e2⟩ | ⟨g, cap, cur, e1, e2, e3, e4, e5, e6, e7⟩
 · obtain rfl : xs = [] := List.length_eq_zero_iff.1 e2
   rw [e1]
   refine (hn W).mono ?_
   rintro e w' ⟨rfl, rfl⟩
   refine ⟨_, _, I, ⟨Sl.nil, rfl, rfl⟩, ⟨fun e he => ?_, List.nodup_nil, fun b hb => ⟨(h3 b hb).1, (fun k => by cases k)⟩, fun b hb => (by cases hb), fun b hb => .inl hb, fun b hb => hb, rfl, rfl, rfl, Nat.le_refl _, fun _ _ _ => rfl, h4⟩, rfl⟩
   obtain rfl := List.mem_singleton.1 he
   exact ⟨[], ⟨rfl, .inl ⟨rfl, rfl⟩⟩, trivial⟩
 · have hq : q = ⟨some ⟨g, 0, none⟩, xs.length, cap⟩ := by
    have h := e1
    simp only [Sl.v, Value.slice.injEq] at h
    obtain ⟨a, b, c⟩ := h
    cases q; simp_all
   subst hq
   have hbl : ∀ (n : Nat) (ys : List Int), blks [rowE (Sl.v ⟨some ⟨g, 0, none⟩, n, cap⟩) E 1 intC ys] = [g] := fun n ys => rfl
   refine (hc g cap xs W (holds_of_blockI e3 (by rw [Nat.mul_one] at e7; exact e7)) hbig e4).mono ?_
   rintro e w' ⟨rfl, n, rfl⟩
   generalize hys : Lib.compact xs ++ List.replicate (xs.length - (Lib.compact xs).length) 0 = ys
   have hyl : ys.length = xs.length := by rw [← hys, List.length_append, List.length_replicate]; omega
   have hg := grownBy_sortedI (w := W) (g := g) (n := n) (os := #[]) ys.toArray
   have hh := heap_sortedI (w := W) (g := g) (n := n) (os := #[]) ys.toArray e3
   rw [grow_empty] at hg hh
   have hkeep : ∀ b, I b → (putRow (Value.int .i64) (Sort.ahead W n) g 0 ys.toArray).heap[b]? = W.heap[b]? := fun b hb => by
    refine hg.block b (h3 b hb).1 fun e => ?_
    have := (h3 b hb).2
    rw [hbl] at this
    exact this (by rw [Option.some.inj e]; exact List.mem_singleton.2 rfl)
   refine ⟨_, _, I, ⟨⟨some ⟨g, 0, none⟩, (Lib.compact xs).length, cap⟩, rfl, rfl⟩, ⟨fun e he => ?_, ?_, fun b hb => ⟨Nat.lt_of_lt_of_le (h3 b hb).1 hg.size, ?_⟩, fun b hb => ?_, fun b hb => .inl hb, fun b hb => hb, hg.os, hg.tape, hg.output, hg.size, fun b hb hne => ?_, fun q hq => PD.mono hkeep (fun _ h => h) (h4 q hq)⟩, rfl⟩
   · obtain rfl := List.mem_singleton.1 he
     have ht := take_putCellsI cur ys (by rw [hyl]; omega)
     refine ⟨(Lib.compact xs).map (Value.int .i64), ⟨by simp, .inr ⟨g, cap, _, rfl, Nat.zero_le _, hh, by omega, e5, by simp [putCells, e6], ?_⟩⟩, rels_ints _ _ _⟩
     have h := congrArg (List.take (Lib.compact xs).length) ht
     rw [List.take_take, Nat.min_eq_left (by omega), ← List.map_take, ← hys, List.take_left] at h
     rw [Nat.mul_one]; rw [← hys]; exact h
   · rw [hbl]; simp
   · have := (h3 b hb).2
     rw [hbl] at this ⊢; exact this
   · rw [hbl] at hb; rw [hbl]; exact .inl hb
   · refine hg.block b hb fun e => hne ?_
     rw [hbl, Option.some.inj e]; exact List.mem_singleton.2 rfl
end Go.Av
