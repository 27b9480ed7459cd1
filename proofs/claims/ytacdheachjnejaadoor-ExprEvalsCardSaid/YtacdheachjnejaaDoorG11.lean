/-
  PLAIN, NO PROGRAM: an expression's worth by its parts.
-/
import Derived.Test.YtacdheachjnejaaDoorG10
namespace Go.Sp
open Go Go.Av
set_option linter.unusedVariables false
set_option linter.unusedSimpArgs false
theorem GoodE.part {l : List Fo} {vars : Int} (g : GoodE l vars) {i : Nat} (hi : i < l.length) : GoodE ((l.drop i).take ((endOf l i).1.toNat - i)) vars := by
  have hw := g.well i hi
  have hb := endOf_bound l i hw
  have hlen := part_length hw
  have h60 := g.h60
  have hl60 : ((l.drop i).take ((endOf l i).1.toNat - i)).length ≤ 60 := by omega
  have he := endsOf_of hl60 (by
    have := part_at hw 0 (by omega)
    simp only [Int.natCast_zero, Nat.add_zero] at this
    rw [this, hlen])
  refine ⟨hl60, by omega, all_well he, fun q hq => ?_, fun q hq => ?_, he⟩
  · have : i + q < l.length := by omega
    have e : ((l.drop i).take ((endOf l i).1.toNat - i))[q] = l[i + q] := by simp
    rw [e]; exact g.op _ this
  · exact (tyAt_part hw q (by omega)).2 (g.typed (i + q) (by omega))
theorem ev_part0 {l : List Fo} {env : List Int} {vars : Int} (g : GoodE l vars) {i : Nat} (hi : i < l.length) : evAt ((l.drop i).take ((endOf l i).1.toNat - i)) env 0 = evAt l env i := by
  have hb := endOf_bound l i (g.well i hi)
  have := ev_part (env := env) g hi l.length 0 (by omega) (by omega)
  exact this
structure Worked (l : List Fo) (env : List Int) (ps : List (List Fo)) : Prop where
  good : ∀ (j : Nat) (h : j < ps.length), GoodE ps[j] env.length ∧ ps[j].length < l.length
  many : (ps.length : Int) = np l 0
  no : ∀ (j : Nat) (h : j < ps.length), evAt ps[j] env 0 = none → evAt l env 0 = none
  yes : ∀ v : List Int, v.length = ps.length → (∀ (j : Nat) (h : j < ps.length) (h' : j < v.length), evAt ps[j] env 0 = some v[j]) → evAt l env 0 = ovr (opV (kindAt l 0) (valAt l 0) env ((v[0]?).getD 0) ((v[1]?).getD 0))
theorem worked_of {l : List Fo} {env : List Int} (g : GoodE l env.length) : Worked l env (splitOf l).1 := by
  have hpos := g.pos
  have ev := evAt_eq l env 0 hpos
  have hs : (splitOf l).1 = chunks l (np l 0).toNat 1 := by
    rw [splitOf, if_neg (fun h => h g.ends)]
    show chunks l (partsOf ((l[0]?.map Fo.kind).getD 0)).1.toNat 1 = _
    rw [np, kindAt]
  rw [hs]
  unfold stepE at ev
  rcases g.parts hpos with ⟨n0, e0⟩ | ⟨n1, p1, e1⟩ | ⟨n2, p1, p2, p3, p4, e2⟩
  · rw [n0] at ev
    have : chunks l (np l 0).toNat 1 = [] := by rw [n0]; rfl
    rw [this]
    refine ⟨fun j h => absurd h (Nat.not_lt_zero _), by rw [n0]; rfl, fun j h => absurd h (Nat.not_lt_zero _), fun v hv _ => ?_⟩
    obtain rfl : v = [] := List.eq_nil_of_length_eq_zero hv
    exact ev
  · rw [n1] at ev
    have hc : chunks l (np l 0).toNat 1 = [(l.drop 1).take ((endOf l (1 : Nat)).1.toNat - 1)] := by rw [n1]; rfl
    have g1 := g.part p1
    have v1 := ev_part0 (env := env) g p1
    have hlt : ((l.drop 1).take ((endOf l (1 : Nat)).1.toNat - 1)).length < l.length := by rw [List.length_take, List.length_drop]; omega
    simp only [Nat.zero_add] at g1 v1 ev p1
    rw [hc]
    refine ⟨fun j h => ?_, by rw [n1]; rfl, fun j h hn => ?_, fun v hv hv' => ?_⟩
    · obtain rfl : j = 0 := by simpa using h
      exact ⟨g1, hlt⟩
    · obtain rfl : j = 0 := by simpa using h
      have hn : evAt ((l.drop 1).take ((endOf l (1 : Nat)).1.toNat - 1)) env 0 = none := hn
      rw [v1] at hn
      rw [ev, hn]; rfl
    · match v, hv with
      | [a], _ =>
        have := hv' 0 (by simp) (by simp)
        have this : evAt ((l.drop 1).take ((endOf l (1 : Nat)).1.toNat - 1)) env 0 = some a := this
        rw [v1] at this
        rw [ev, this]; rfl
  · rw [n2] at ev
    have hc : chunks l (np l 0).toNat 1 = [(l.drop 1).take ((endOf l (1 : Nat)).1.toNat - 1), (l.drop (second l 0)).take ((endOf l (second l 0 : Nat)).1.toNat - second l 0)] := by rw [n2]; rfl
    have g1 := g.part p1
    have v1 := ev_part0 (env := env) g p1
    have g2 := g.part p3
    have v2 := ev_part0 (env := env) g p3
    have hlt : ((l.drop 1).take ((endOf l (1 : Nat)).1.toNat - 1)).length < l.length := by rw [List.length_take, List.length_drop]; omega
    have hlt2 : ((l.drop (second l 0)).take ((endOf l (second l 0 : Nat)).1.toNat - second l 0)).length < l.length := by rw [List.length_take, List.length_drop]; omega
    rw [if_pos (show 0 < second l 0 by omega)] at ev
    simp only [Nat.zero_add] at g1 v1 ev p1
    rw [hc]
    refine ⟨fun j h => ?_, by rw [n2]; rfl, fun j h hn => ?_, fun v hv hv' => ?_⟩
    · have : j = 0 ∨ j = 1 := by simp at h; omega
      rcases this with rfl | rfl
      · exact ⟨g1, hlt⟩
      · exact ⟨g2, hlt2⟩
    · have : j = 0 ∨ j = 1 := by simp at h; omega
      rcases this with rfl | rfl
      · have hn : evAt ((l.drop 1).take ((endOf l (1 : Nat)).1.toNat - 1)) env 0 = none := hn
        rw [v1] at hn
        rw [ev, hn]; rfl
      · have hn : evAt ((l.drop (second l 0)).take ((endOf l (second l 0 : Nat)).1.toNat - second l 0)) env 0 = none := hn
        rw [v2] at hn
        rw [ev, hn]
        cases evAt l env 1 <;> rfl
    · match v, hv with
      | [a, b], _ =>
        have t1 : evAt ((l.drop 1).take ((endOf l (1 : Nat)).1.toNat - 1)) env 0 = some a := hv' 0 (by simp) (by simp)
        have t2 : evAt ((l.drop (second l 0)).take ((endOf l (second l 0 : Nat)).1.toNat - second l 0)) env 0 = some b := hv' 1 (by simp) (by simp)
        rw [v1] at t1
        rw [v2] at t2
        rw [ev, t1, t2]; rfl
end Go.Sp
