/-
  PLAIN, NO PROGRAM: graphs (P8): which may be, what is reached.
-/
import Derived.Test.YtffdlpjbbkhcnaaSb
namespace Go.Sp
open Go.Av

def listC (l : List Int) : List D := [intsD l]
abbrev listsD (l : List (List Int)) : D := .l 1 24 (l.map listC)
def natC (n : Nat) : List D := [.i .i64 (n : Int)]
abbrev natsD (l : List Nat) : D := .l 1 8 (l.map natC)
def natLC (l : List Nat) : List D := [natsD l]
abbrev natLD (l : List (List Nat)) : D := .l 1 24 (l.map natLC)

structure Gr where
  spots : List Fo
  init : Int
  next : List (List Int)
  sets : List Int
  many : Int
def Gr.cells (g : Gr) : List D := [opsD g.spots, .i .i64 g.init, listsD g.next, intsD g.sets, .i .i64 g.many]
/-- P8.1: the head of it. -/
def headG (g : Gr) : Prop := g.spots.length ≤ 20000 ∧ g.next.length = g.spots.length ∧ g.sets.length = g.spots.length ∧ 0 ≤ g.init ∧ g.init ≤ g.spots.length ∧ 0 ≤ g.many ∧ g.many ≤ 6
/-- P8.1: the spots from one place to another. -/
def spotG (g : Gr) (i : Nat) : Prop := (∀ (h : i < g.next.length), ∀ k ∈ g.next[i], 0 ≤ k ∧ k < g.spots.length) ∧ ∀ (h : i < g.sets.length), 0 ≤ g.sets[i] ∧ g.sets[i] < 2 ^ g.many.toNat
def okG (g : Gr) : Prop := headG g ∧ ∀ i, i < g.spots.length → spotG g i
noncomputable instance (g : Gr) : Decidable (okG g) := Classical.propDecidable _
/-- P8.1. -/
noncomputable def graphF (g : Gr) : Int := if okG g then 0 else 9

/-! ### Graphs that may be, by natural numbers -/
structure Gn where
  spots : List Fo
  init : Nat
  next : List (List Nat)
  sets : List Nat
  many : Nat
def Gn.gr (g : Gn) : Gr := ⟨g.spots, g.init, g.next.map (·.map fun k : Nat => (k : Int)), g.sets.map fun k : Nat => (k : Int), g.many⟩
structure Gn.ok (g : Gn) : Prop where
  size : g.spots.length ≤ 20000
  next : g.next.length = g.spots.length
  sets : g.sets.length = g.spots.length
  init : g.init ≤ g.spots.length
  many : g.many ≤ 6
  to : ∀ (i : Nat) (h : i < g.next.length), ∀ k ∈ g.next[i], k < g.spots.length
  bits : ∀ (i : Nat) (h : i < g.sets.length), g.sets[i] < 2 ^ g.many
def Gn.cells (g : Gn) : List D := [opsD g.spots, .i .i64 g.init, natLD g.next, natsD g.sets, .i .i64 g.many]
theorem natsD_eq (l : List Nat) : natsD l = intsD (l.map fun k : Nat => (k : Int)) := by
  unfold natsD intsD; rw [List.map_map]; rfl
theorem natLD_eq (l : List (List Nat)) : natLD l = listsD (l.map (·.map fun k : Nat => (k : Int))) := by
  unfold natLD listsD
  rw [List.map_map]
  congr 1
  refine List.map_congr_left fun x _ => ?_
  simp only [natLC, listC, Function.comp, natsD_eq]
theorem Gn.cells_eq (g : Gn) : g.gr.cells = g.cells := by
  unfold Gr.cells Gn.cells Gn.gr
  rw [natsD_eq, natLD_eq]
theorem nat_list {l : List Int} (h : ∀ k ∈ l, 0 ≤ k) : (l.map Int.toNat).map (fun k : Nat => (k : Int)) = l := by
  rw [List.map_map]
  conv => rhs; rw [← List.map_id l]
  refine List.map_congr_left fun k hk => ?_
  have := h k hk
  simp only [Function.comp, id]
  omega
theorem okG_nat {g : Gr} (h : okG g) : ∃ gn : Gn, gn.gr = g ∧ gn.ok := by
  obtain ⟨⟨h1, h2, h3, h4, h5, h6, h7⟩, h8⟩ := h
  refine ⟨⟨g.spots, g.init.toNat, g.next.map (·.map Int.toNat), g.sets.map Int.toNat, g.many.toNat⟩, ?_, ?_⟩
  · have e1 : (g.next.map (·.map Int.toNat)).map (·.map fun k : Nat => (k : Int)) = g.next := by
      rw [List.map_map]
      conv => rhs; rw [← List.map_id g.next]
      refine List.map_congr_left fun l hl => ?_
      obtain ⟨i, hi, rfl⟩ := List.getElem_of_mem hl
      exact nat_list fun k hk => ((h8 i (by omega)).1 hi k hk).1
    have e2 : (g.sets.map Int.toNat).map (fun k : Nat => (k : Int)) = g.sets := nat_list fun k hk => by
      obtain ⟨i, hi, rfl⟩ := List.getElem_of_mem hk
      exact ((h8 i (by omega)).2 hi).1
    unfold Gn.gr
    dsimp only
    rw [e1, e2, Int.toNat_of_nonneg h4, Int.toNat_of_nonneg h6]
  · refine ⟨h1, by simpa using h2, by simpa using h3, by dsimp only; omega, by dsimp only; omega, fun i hi k hk => ?_, fun i hi => ?_⟩
    · simp only [List.length_map] at hi
      simp only [List.getElem_map, List.mem_map] at hk
      obtain ⟨a, ha, rfl⟩ := hk
      have := (h8 i (by omega)).1 hi a ha
      dsimp only
      omega
    · simp only [List.length_map] at hi
      have := (h8 i (by omega)).2 hi
      simp only [List.getElem_map]
      have e : ((2 ^ g.many.toNat : Nat) : Int) = 2 ^ g.many.toNat := by exact_mod_cast rfl
      omega
theorem Gn.ok_gr {g : Gn} (h : g.ok) : okG g.gr := by
  refine ⟨⟨h.size, by simpa [Gn.gr] using h.next, by simpa [Gn.gr] using h.sets, by simp [Gn.gr], by have := h.init; simp only [Gn.gr]; omega, by simp [Gn.gr], by have := h.many; simp only [Gn.gr]; omega⟩, fun i _ => ⟨fun hi k hk => ?_, fun hi => ?_⟩⟩
  · simp only [Gn.gr, List.length_map] at hi
    simp only [Gn.gr, List.getElem_map, List.mem_map] at hk
    obtain ⟨a, ha, rfl⟩ := hk
    have := h.to i hi a ha
    simp only [Gn.gr]
    omega
  · simp only [Gn.gr, List.length_map] at hi
    have := h.bits i hi
    simp only [Gn.gr, List.getElem_map, Int.toNat_natCast]
    exact ⟨by omega, by exact_mod_cast this⟩
/-- What a spot leads to. -/
def Gn.nx (g : Gn) (i : Nat) : List Nat := (g.next[i]?).getD []
theorem Gn.nx_get (g : Gn) (i : Nat) (h : i < g.next.length) : g.nx i = g.next[i] := by simp [Gn.nx, List.getElem?_eq_getElem h]
theorem Gn.nx_lt {g : Gn} (h : g.ok) (i : Nat) : ∀ k ∈ g.nx i, k < g.spots.length := by
  intro k hk
  by_cases hi : i < g.next.length
  · rw [g.nx_get i hi] at hk; exact h.to i hi k hk
  · simp [Gn.nx, List.getElem?_eq_none (by omega : g.next.length ≤ i)] at hk

/-! ### What is reached -/
inductive Rch (nx : Nat → List Nat) : Nat → Nat → Prop where
  | refl (i : Nat) : Rch nx i i
  | step {i j k : Nat} (h : Rch nx i j) (e : k ∈ nx j) : Rch nx i k
theorem Rch.trans {nx : Nat → List Nat} {i j k : Nat} (h : Rch nx i j) (h2 : Rch nx j k) : Rch nx i k := by
  induction h2 with
  | refl => exact h
  | step _ e ih => exact .step ih e
theorem Rch.one {nx : Nat → List Nat} {i j : Nat} (e : j ∈ nx i) : Rch nx i j := .step (.refl i) e
theorem Rch.closed {nx : Nat → List Nat} {S : Nat → Prop} (hS : ∀ i, S i → ∀ k ∈ nx i, S k) {i j : Nat} (h : Rch nx i j) (hi : S i) : S j := by
  induction h with
  | refl => exact hi
  | step _ e ih => exact hS _ ih _ e
theorem Rch.lt {nx : Nat → List Nat} {n : Nat} (hn : ∀ i, ∀ k ∈ nx i, k < n) {i j : Nat} (h : Rch nx i j) (hi : i < n) : j < n := Rch.closed (S := (· < n)) (fun i _ k hk => hn i k hk) h hi
/-- P8.3. -/
def reachedP (g : Gn) (i : Nat) : Prop := ∃ j, j < g.init ∧ Rch g.nx j i
noncomputable instance (g : Gn) (i : Nat) : Decidable (reachedP g i) := Classical.propDecidable _
noncomputable def reachedL (g : Gn) : List Bool := (List.range g.spots.length).map fun i => decide (reachedP g i)
end Go.Sp
