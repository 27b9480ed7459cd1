/- A bundle of this claim's own texts: T11 G13 Q1. -/
import Derived.Sort.OwnSortedInts
import Derived.Lib.SlicesCompact
import Derived.Test.YtcikppldaepodaaGreatDoorZ1
import Derived.Test.YtcikppldaepodaaGreatDoorZ5
import Derived.Test.YtcikppldaepodaaGreatDoorZ19
import Derived.Test.YtcikppldaepodaaGreatDoorZ20
namespace Go.Proofs.YtcikppldaepodaaGreatDoor
open Go Go.Av Go.Sp
set_option linter.unusedVariables false
set_option linter.unusedSimpArgs false
set_option maxRecDepth 100000
set_option maxHeartbeats 4000000

end Go.Proofs.YtcikppldaepodaaGreatDoor
namespace Go.Sp
open Go Go.Av
set_option linter.unusedVariables false
set_option linter.unusedSimpArgs false

abbrev updAt (vs : List Int) (l : List St) (i : Nat) : Int := upd vs l i ((vs[i]?).getD 0)
theorem setAll_upd (vs : List Int) (l : List St) : setAll vs l vs = (List.range vs.length).map (updAt vs l) := by
  refine List.ext_getElem? fun i => ?_
  rw [setAll_get, List.getElem?_map]
  by_cases h : i < vs.length
  · rw [List.getElem?_eq_getElem h, List.getElem?_range h]
    simp [updAt, List.getElem?_eq_getElem h]
  · rw [List.getElem?_eq_none (by omega), List.getElem?_eq_none (by simp; omega)]; rfl
theorem afterF_guard {m : Md} {r : Ru} {vs : List Int} (h : evalF r.guard vs ≠ (1, 0)) : afterF m r vs = none := by
  rw [afterF, if_neg fun k => h k.1]
theorem afterF_set {m : Md} {r : Ru} {vs : List Int} {s : St} (hs : s ∈ r.sets) (h : ¬ setOk m vs s) : afterF m r vs = none := by
  rw [afterF, if_neg fun k => h (k.2 s hs)]
theorem afterF_some {m : Md} {r : Ru} {vs : List Int} (h : evalF r.guard vs = (1, 0)) (hs : ∀ s ∈ r.sets, setOk m vs s) : afterF m r vs = some (setAll vs r.sets vs) := by
  rw [afterF, if_pos ⟨h, hs⟩]
structure InV (m : Md) (vs : List Int) : Prop where
  len : vs.length = m.vars.length
  range : ∀ (i : Nat) (h : i < m.vars.length) (h' : i < vs.length), m.vars[i].low ≤ vs[i] ∧ vs[i] ≤ m.vars[i].high
theorem InV.vals {m : Md} (hm : modelF m = 0) {c : Int} (h0 : 0 ≤ c) (hc : c < prodV m.vars) : InV m (valsT m.vars c) :=
  ⟨valsT_length _ _, fun i h h' => valsT_range (goodV (modelF_vars hm)) h0 hc i h h'⟩
theorem InV.lim {m : Md} (hm : modelF m = 0) {vs : List Int} (g : InV m vs) : ∀ v ∈ vs, limP v := fun v hv => by
  obtain ⟨i, h, rfl⟩ := List.getElem_of_mem hv
  have hl : i < m.vars.length := by have := g.len; omega
  have hr := g.range i hl h
  have hv := (goodV (modelF_vars hm)).range m.vars[i] (List.getElem_mem hl)
  unfold rangeV at hv
  unfold limP; omega
theorem code_of {m : Md} (hm : modelF m = 0) {vs : List Int} (h : vs.length = m.vars.length) : codeF m vs = codeE 0 m.vars vs := by
  rw [codeF, if_neg (fun k => k hm), if_neg (fun k => k h)]
theorem after_ok {m : Md} (hm : modelF m = 0) {r : Ru} (hr : r ∈ m.rules) {vs : List Int} (g : InV m vs) (hs : ∀ s ∈ r.sets, setOk m vs s) : (codeF m (setAll vs r.sets vs)).2 = 0 := by
  have hl := setAll_length vs r.sets vs
  rw [code_of hm (by rw [hl]; exact g.len)]
  refine codeE_all _ _ _ fun i h h' => ?_
  have e := setAll_get vs r.sets vs i
  rw [List.getElem?_eq_getElem h', List.getElem?_eq_getElem (by omega)] at e
  simp only [Option.map_some, Option.some.injEq] at e
  rw [e]
  rcases upd_or vs r.sets i vs[i] with u | ⟨s, h1, h2, h3⟩
  · rw [u]; exact g.range i h (by omega)
  · rw [h3]; exact (hs s h1).2 _ (by rw [h2, List.getElem?_eq_getElem h])
theorem after_no {m : Md} (hm : modelF m = 0) {r : Ru} (hr : r ∈ m.rules) {vs : List Int} (g : InV m vs) {s : St} (hs : s ∈ r.sets) (he : (evalF s.val vs).2 = 0) (h : ¬ setOk m vs s) : codeF m (setAll vs r.sets vs) = (0, 9) := by
  have hl := setAll_length vs r.sets vs
  rw [code_of hm (by rw [hl]; exact g.len)]
  have gr := goodR hm hr
  obtain ⟨a1, a2, a3⟩ := gr.sets s hs
  have hi : s.var.toNat < m.vars.length := by omega
  have hiv : s.var.toNat < vs.length := by rw [g.len]; exact hi
  refine codeE_no _ _ _ s.var.toNat hi (by rw [hl]; exact hiv) fun k => h ⟨he, fun v hv => ?_⟩
  have e := setAll_get vs r.sets vs s.var.toNat
  rw [List.getElem?_eq_getElem (by rw [hl]; exact hiv), List.getElem?_eq_getElem hiv] at e
  simp only [Option.map_some, Option.some.injEq] at e
  rw [e, upd_mem vs r.sets _ _ s (fun q hq => (gr.sets q hq).1) gr.once hs rfl] at k
  rw [List.getElem?_eq_getElem hi] at hv
  cases hv
  exact k
theorem after_ref {m : Md} (hm : modelF m = 0) {r : Ru} (hr : r ∈ m.rules) {vs : List Int} (g : InV m vs) (hg : evalF r.guard vs = (1, 0)) (he : ∀ s ∈ r.sets, (evalF s.val vs).2 = 0) :
    ((codeF m (setAll vs r.sets vs)).2 = 0 ∧ afterF m r vs = some (setAll vs r.sets vs)) ∨ ((codeF m (setAll vs r.sets vs)).2 ≠ 0 ∧ afterF m r vs = none) := by
  by_cases h : ∀ s ∈ r.sets, setOk m vs s
  · exact .inl ⟨after_ok hm hr g h, afterF_some hg h⟩
  · obtain ⟨s, hs⟩ := Classical.not_forall.1 h
    obtain ⟨h1, h2⟩ := Classical.not_imp.1 hs
    exact .inr ⟨by rw [after_no hm hr g h1 (he s h1) h2]; decide, afterF_set h1 h2⟩
theorem setAll_append (vs : List Int) : ∀ (a b : List St) (out : List Int), setAll vs (a ++ b) out = setAll vs b (setAll vs a out)
  | [], _, _ => rfl
  | s :: a, b, out => by rw [List.cons_append, setAll, setAll, setAll_append vs a b]
theorem setAll_succ (vs : List Int) (l : List St) (i : Nat) (h : i < l.length) : setAll vs (l.take (i + 1)) vs = (setAll vs (l.take i) vs).set l[i].var.toNat (evalF l[i].val vs).1 := by
  rw [List.take_succ_eq_append_getElem h, setAll_append]; rfl
theorem upd_at (vs : List Int) (l : List St) (k : Nat) (h : k < l.length) (i : Nat) (x : Int) : upd vs (l.drop k) i x = upd vs (l.drop (k + 1)) i (if l[k].var.toNat = i then (evalF l[k].val vs).1 else x) := by
  rw [List.drop_eq_getElem_cons h, upd]
theorem upd_end (vs : List Int) (l : List St) (k : Nat) (h : l.length ≤ k) (i : Nat) (x : Int) : upd vs (l.drop k) i x = x := by
  rw [List.drop_of_length_le h, upd]
theorem setOk_iff {m : Md} {vs : List Int} {s : St} {n e : Int} (he : evalF s.val vs = (n, e)) (h : s.var.toNat < m.vars.length) : setOk m vs s ↔ (e = 0 ∧ m.vars[s.var.toNat].low ≤ n ∧ n ≤ m.vars[s.var.toNat].high) := by
  unfold setOk
  rw [he]
  constructor
  · rintro ⟨h1, h2⟩
    exact ⟨h1, h2 _ (List.getElem?_eq_getElem h)⟩
  · rintro ⟨h1, h2⟩
    refine ⟨h1, fun v hv => ?_⟩
    rw [List.getElem?_eq_getElem h] at hv
    cases hv
    exact h2
theorem afterC_no {m : Md} {code rule : Int} {vs : List Int} (hv : valsF m code = (vs, 0)) (h : ¬ (0 ≤ rule ∧ rule < m.rules.length)) : afterC m code rule = (0, 2) := by
  unfold afterC
  rw [hv, if_neg (by simp)]
  by_cases h0 : 0 ≤ rule
  · rw [if_pos h0, List.getElem?_eq_none (by omega)]
  · rw [if_neg h0]
theorem afterC_yes {m : Md} {code rule : Int} {vs : List Int} (hv : valsF m code = (vs, 0)) (h0 : 0 ≤ rule) (h : rule.toNat < m.rules.length) : afterC m code rule = match afterF m m.rules[rule.toNat] vs with
    | none => (0, 11)
    | some out => codeF m out := by
  unfold afterC
  rw [hv, if_neg (by simp), if_pos h0, List.getElem?_eq_getElem h]
  all_goals (try dsimp only)
  all_goals (cases afterF m m.rules[rule.toNat] vs <;> rfl)
theorem valsF_ok {m : Md} {c : Int} (h : (valsF m c).2 = 0) : modelF m = 0 ∧ 0 ≤ c ∧ c < prodV m.vars ∧ valsF m c = (valsT m.vars c, 0) := by
  unfold valsF at h ⊢
  by_cases c1 : modelF m ≠ 0
  · rw [if_pos c1] at h; exact absurd h c1
  rw [if_neg c1] at h ⊢
  by_cases c2 : 0 ≤ c ∧ c < prodV m.vars
  · rw [if_pos c2]; exact ⟨Decidable.not_not.1 c1, c2.1, c2.2, rfl⟩
  · rw [if_neg c2] at h; exact absurd h (by decide)
theorem afterC_err {m : Md} {code rule : Int} (h : (valsF m code).2 ≠ 0) : afterC m code rule = (0, (valsF m code).2) := by
  unfold afterC; rw [if_pos h]
end Go.Sp
namespace Go.Av
open Go Go.Sort Go.Proofs Go.Sp
set_option linter.unusedVariables false
set_option linter.unusedSimpArgs false

abbrev sortI (l : List Int) : List Int := l.mergeSort fun x y => decide (x ≤ y)
theorem ints_rels {w : World} {I : Nat → Prop} : ∀ {xs : List Int} {us : List Value}, AV.rels w I ((xs.map intC).flatten.map D.av) us → us = xs.map (Value.int .i64)
  | [], [], _ => rfl
  | [], _ :: _, h => h.elim
  | x :: xs, [], h => h.elim
  | x :: xs, u :: us, h => by
    obtain ⟨h1, h2⟩ := h
    rw [List.map_cons, ← ints_rels h2, show u = .int .i64 x from h1]
theorem rels_ints (w : World) (I : Nat → Prop) : ∀ xs : List Int, AV.rels w I ((xs.map intC).flatten.map D.av) (xs.map (Value.int .i64))
  | [] => trivial
  | x :: xs => ⟨rfl, rels_ints w I xs⟩
theorem AC_sortI {P : Program} {G : List (Nat × List D)} {f : FuncId} {E : TypeId} (q : Sl) (xs : List Int) (hbig : xs.length < 4611686018427387904)
    (hc : ∀ (blk cap : Nat) (zs : List Int) (w : World), Holds (Value.int .i64) w blk 0 zs.toArray → blk < w.heap.size → zs.length < 4611686018427387904 → Calls P f #[.slice (some ⟨blk, 0, none⟩) zs.length cap] w fun e w' => e = .returned (.tuple #[]) ∧ ∃ n os, w' = grow (putRow (Value.int .i64) (Sort.ahead w n) blk 0 (sortI zs).toArray) os)
    (hn : ∀ w : World, Calls P f #[.slice none 0 0] w fun e w' => e = .returned (.tuple #[]) ∧ w' = w) :
    AC P G f [.val q.v] [rowE q.v E 1 intC xs] fun e h => e = .ret (.tup []) ∧ h = [rowE q.v E 1 intC (sortI xs)] := by
  intro I W vs h1 h2 h3 h4 h5
  obtain ⟨v, rfl⟩ : ∃ v, vs = [v] := by
    cases vs with
    | nil => exact h5.elim
    | cons v t => cases t with
      | nil => exact ⟨v, rfl⟩
      | cons _ _ => exact h5.2.elim
  obtain rfl : v = q.v := h5.1
  obtain ⟨us, ho, hr⟩ := h1 _ List.mem_cons_self
  obtain rfl := ints_rels hr
  have hls : (sortI xs).length = xs.length := List.length_mergeSort _
  rcases ho.2 with ⟨e1, e2⟩ | ⟨g, cap, cur, e1, e2, e3, e4, e5, e6, e7⟩
  · obtain rfl : xs = [] := List.length_eq_zero_iff.1 e2
    have hz : sortI ([] : List Int) = [] := by simp [sortI]
    rw [e1, hz]
    refine (hn W).mono ?_
    rintro e w' ⟨rfl, rfl⟩
    refine ⟨_, _, I, ⟨rfl, rfl⟩, ⟨fun e he => ?_, List.nodup_nil, fun b hb => ⟨(h3 b hb).1, (fun k => by cases k)⟩, fun b hb => (by cases hb), fun b hb => .inl hb, fun b hb => hb, rfl, rfl, rfl, Nat.le_refl _, fun _ _ _ => rfl, h4⟩, ⟨[], rfl, trivial⟩⟩
    obtain rfl := List.mem_singleton.1 he
    exact ⟨[], ⟨rfl, .inl ⟨rfl, rfl⟩⟩, trivial⟩
  · have hq : q = ⟨some ⟨g, 0, none⟩, xs.length, cap⟩ := by
      have h := e1
      simp only [Sl.v, Value.slice.injEq] at h
      obtain ⟨a, b, c⟩ := h
      cases q; simp_all
    subst hq
    have hbl : ∀ ys : List Int, blks [rowE (Sl.v ⟨some ⟨g, 0, none⟩, xs.length, cap⟩) E 1 intC ys] = [g] := fun ys => rfl
    have hgs : g < W.heap.size := (Array.getElem?_eq_some_iff.1 e3).1
    refine (hc g cap xs W (holds_of_blockI e3 (by rw [Nat.mul_one] at e7; exact e7)) hgs hbig).mono ?_
    rintro e w' ⟨rfl, n, os, rfl⟩
    have hg := grownBy_sortedI (w := W) (g := g) (n := n) (os := os) (sortI xs).toArray
    have hkeep : ∀ b, I b → (grow (putRow (Value.int .i64) (Sort.ahead W n) g 0 (sortI xs).toArray) os).heap[b]? = W.heap[b]? := fun b hb => by
      refine hg.block b (h3 b hb).1 fun e => ?_
      have := (h3 b hb).2
      rw [hbl] at this
      exact this (by rw [Option.some.inj e]; exact List.mem_singleton.2 rfl)
    refine ⟨_, _, I, ⟨rfl, rfl⟩, ⟨fun e he => ?_, ?_, fun b hb => ⟨Nat.lt_of_lt_of_le (h3 b hb).1 hg.size, ?_⟩, fun b hb => ?_, fun b hb => .inl hb, fun b hb => hb, hg.os, hg.tape, hg.output, hg.size, fun b hb hne => ?_, fun q hq => PD.mono hkeep (fun _ h => h) (h4 q hq)⟩, ⟨[], rfl, trivial⟩⟩
    · obtain rfl := List.mem_singleton.1 he
      have hos := ownsRow_sortedI (n := n) (os := os) (base := 0) hls (Nat.zero_le g) e3 e4 e5 e6
      refine ⟨(sortI xs).map (Value.int .i64), ?_, rels_ints _ _ _⟩
      rw [hls]; exact hos
    · rw [hbl]; simp
    · have := (h3 b hb).2
      rw [hbl] at this ⊢; exact this
    · rw [hbl] at hb; rw [hbl]; exact .inl hb
    · refine hg.block b hb fun e => hne ?_
      rw [hbl, Option.some.inj e]; exact List.mem_singleton.2 rfl
theorem AC_compactI {P : Program} {G : List (Nat × List D)} {f : FuncId} {E : TypeId} (q : Sl) (xs : List Int) (hbig : xs.length ≤ 9223372036854775807) (hk : (Lib.compact xs).length ≤ xs.length)
    (hc : ∀ (blk cap : Nat) (zs : List Int) (w : World), Holds (Value.int .i64) w blk 0 zs.toArray → zs.length ≤ 9223372036854775807 → zs.length ≤ cap → Calls P f #[.slice (some ⟨blk, 0, none⟩) zs.length cap] w fun e w' => e = .returned (.slice (some ⟨blk, 0, none⟩) (Lib.compact zs).length cap) ∧ ∃ q, w' = putRow (Value.int .i64) (Sort.ahead w q) blk 0 (Lib.compact zs ++ List.replicate (zs.length - (Lib.compact zs).length) 0).toArray)
    (hn : ∀ w : World, Calls P f #[.slice none 0 0] w fun e w' => e = .returned (.slice none 0 0) ∧ w' = w) :
    AC P G f [.val q.v] [rowE q.v E 1 intC xs] fun e h => ∃ q' : Sl, e = .ret (.val q'.v) ∧ h = [rowE q'.v E 1 intC (Lib.compact xs)] := by
  intro I W vs h1 h2 h3 h4 h5
  obtain ⟨v, rfl⟩ : ∃ v, vs = [v] := by
    cases vs with
    | nil => exact h5.elim
    | cons v t => cases t with
      | nil => exact ⟨v, rfl⟩
      | cons _ _ => exact h5.2.elim
  obtain rfl : v = q.v := h5.1
  obtain ⟨us, ho, hr⟩ := h1 _ List.mem_cons_self
  obtain rfl := ints_rels hr
  rcases ho.2 with ⟨e1, e2⟩ | ⟨g, cap, cur, e1, e2, e3, e4, e5, e6, e7⟩
  · obtain rfl : xs = [] := List.length_eq_zero_iff.1 e2
    rw [e1]
    refine (hn W).mono ?_
    rintro e w' ⟨rfl, rfl⟩
    refine ⟨_, _, I, ⟨Sl.nil, rfl, rfl⟩, ⟨fun e he => ?_, List.nodup_nil, fun b hb => ⟨(h3 b hb).1, (fun k => by cases k)⟩, fun b hb => (by cases hb), fun b hb => .inl hb, fun b hb => hb, rfl, rfl, rfl, Nat.le_refl _, fun _ _ _ => rfl, h4⟩, rfl⟩
    obtain rfl := List.mem_singleton.1 he
    exact ⟨[], ⟨rfl, .inl ⟨rfl, rfl⟩⟩, trivial⟩
  · have hq : q = ⟨some ⟨g, 0, none⟩, xs.length, cap⟩ := by
      have h := e1
      simp only [Sl.v, Value.slice.injEq] at h
      obtain ⟨a, b, c⟩ := h
      cases q; simp_all
    subst hq
    have hbl : ∀ (n : Nat) (ys : List Int), blks [rowE (Sl.v ⟨some ⟨g, 0, none⟩, n, cap⟩) E 1 intC ys] = [g] := fun n ys => rfl
    refine (hc g cap xs W (holds_of_blockI e3 (by rw [Nat.mul_one] at e7; exact e7)) hbig e4).mono ?_
    rintro e w' ⟨rfl, n, rfl⟩
    generalize hys : Lib.compact xs ++ List.replicate (xs.length - (Lib.compact xs).length) 0 = ys
    have hyl : ys.length = xs.length := by rw [← hys, List.length_append, List.length_replicate]; omega
    have hg := grownBy_sortedI (w := W) (g := g) (n := n) (os := #[]) ys.toArray
    have hh := heap_sortedI (w := W) (g := g) (n := n) (os := #[]) ys.toArray e3
    rw [grow_empty] at hg hh
    have hkeep : ∀ b, I b → (putRow (Value.int .i64) (Sort.ahead W n) g 0 ys.toArray).heap[b]? = W.heap[b]? := fun b hb => by
      refine hg.block b (h3 b hb).1 fun e => ?_
      have := (h3 b hb).2
      rw [hbl] at this
      exact this (by rw [Option.some.inj e]; exact List.mem_singleton.2 rfl)
    refine ⟨_, _, I, ⟨⟨some ⟨g, 0, none⟩, (Lib.compact xs).length, cap⟩, rfl, rfl⟩, ⟨fun e he => ?_, ?_, fun b hb => ⟨Nat.lt_of_lt_of_le (h3 b hb).1 hg.size, ?_⟩, fun b hb => ?_, fun b hb => .inl hb, fun b hb => hb, hg.os, hg.tape, hg.output, hg.size, fun b hb hne => ?_, fun q hq => PD.mono hkeep (fun _ h => h) (h4 q hq)⟩, rfl⟩
    · obtain rfl := List.mem_singleton.1 he
      have ht := take_putCellsI cur ys (by rw [hyl]; omega)
      refine ⟨(Lib.compact xs).map (Value.int .i64), ⟨by simp, .inr ⟨g, cap, _, rfl, Nat.zero_le _, hh, by omega, e5, by simp [putCells, e6], ?_⟩⟩, rels_ints _ _ _⟩
      have h := congrArg (List.take (Lib.compact xs).length) ht
      rw [List.take_take, Nat.min_eq_left (by omega), ← List.map_take, ← hys, List.take_left] at h
      rw [Nat.mul_one]; rw [← hys]; exact h
    · rw [hbl]; simp
    · have := (h3 b hb).2
      rw [hbl] at this ⊢; exact this
    · rw [hbl] at hb; rw [hbl]; exact .inl hb
    · refine hg.block b hb fun e => hne ?_
      rw [hbl, Option.some.inj e]; exact List.mem_singleton.2 rfl
end Go.Av
