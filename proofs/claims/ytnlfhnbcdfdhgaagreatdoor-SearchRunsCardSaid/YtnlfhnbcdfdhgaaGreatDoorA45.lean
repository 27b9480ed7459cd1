/- Own texts. -/
import Derived.Test.YtnlfhnbcdfdhgaaGreatDoorA39
set_option linter.unusedVariables false
set_option linter.unusedSimpArgs false
set_option maxRecDepth 100000
set_option maxHeartbeats 4000000
namespace Go.Proofs.YtnlfhnbcdfdhgaaGreatDoor
open Go Go.Av Go.Sp
theorem eX (G : List (Nat × List D)) (g : Gr) (hw : ∀ g' : Gn, g'.gr = g → g'.ways g'.next.length ≤ 68719476736) : ACr Tryz.prog G 37 [grA g] (.tup [.int (EE g).1, .int (EE g).2]) := by
 by_cases hk : ¬ okG g
 · have E := KV G g hw
   rw [C4 hk] at E
   dsimp only at E
   refine AK (ts := [2, 3]) Tryz.f37.ntmps Tryz.func37 rfl rfl rfl (by simp [Tryz.ntmps37]) fun W I => ?_
   repeat' (first | refine ca HG (E) ?_ | exact jA | refine Cb ?_ | refine two ?_ ?_ | refine AB fun c_ => ?_ | refine imp fun hc => ?_; try exact cx hc | refine all fun v_ => ?_)
   refine AI jE ?_
   ((with_reducible apply rq2); rfl; rfl; rfl)
   exact AA (by rw [Pr hk])
 obtain ⟨g, rfl, hok⟩ := GZ (jY hk)
 clear hk
 have E := KV G g.gr hw
 have E2 := Wj G g.gr
 rw [Hy hok, ← Mr, ← KQ] at E
 rw [FV hok] at E2
 rw [Lc] at E E2 ⊢
 dsimp only at E E2
 refine AC.factN (g := Kf) (f := Gj) (xss := g.next) 1 8 (fun _ => rfl) (.agg (.there (.there .here))) fun hN => ?_
 refine AK (ts := [2, 3]) Tryz.f37.ntmps Tryz.func37 rfl rfl rfl (by simp [Tryz.ntmps37]) fun W I => ?_
 have hs := hok.size
 have hnl := hok.next
 have hsl := hok.sets
 have hm6 := hok.many
 have h64 := UQ hok
 have hgs : ∀ (i : Nat) (h : i < g.sets.length), g.sets[i] < 64 := fun i h => by have := hok.bits i h; omega
 have hpl := Hs g
 have hplt := RL g
 have lr : (Bo g).length = g.spots.length := by simp [Bo]
 have fr : ∀ (i : Nat) (h : i < (Bo g).length), (Bo g)[i] = true ↔ CZ g i := fun i h => by simp [Bo]
 have hgood : ∀ i, Kr g i ↔ CZ g i ∧ I6 g (EY g) i := fun i => Iff.rfl
 generalize Bo g = rl at E2 lr fr
 generalize EY g = pn at E hpl hplt hgood
 repeat' (first | refine ca HG (E) ?_ | refine ca Oo (E2) ?_ | exact jA | refine Cb ?_ | refine two ?_ ?_ | refine AB fun c_ => ?_ | refine imp fun hc => ?_; try exact cx hc | refine all fun v_ => ?_)
 rename Nat => bg
 refine AG (X := Nat) (fun i => [(1, .val (.pointer (some ⟨bg, 0, none⟩))), (4, .d (BA pn)), (6, .d (Ap rl)), (8, .int i)]) (fun _ => [.cells bg 51 [.d (AO g.spots), .int g.init, .d (Bp g.next), .d (BA g.sets), .int g.many]]) (fun i => i ≤ g.spots.length ∧ ∀ j, j < i → ¬ Kr g j) (fun i => g.spots.length - i) 0 ⟨Nat.zero_le _, fun _ h => absurd h (Nat.not_lt_zero _)⟩ (VS.of_le ?_) ?_
 · exact leD
 rintro i ⟨h1, h2⟩
 by_cases hi : ¬ i < g.spots.length
 · obtain rfl : i = g.spots.length := by omega
   repeat' (first | exact jA | refine Cb ?_ | refine two ?_ ?_ | refine AB fun c_ => ?_ | refine imp fun hc => ?_; try exact cx hc | refine all fun v_ => ?_)
   refine AI jE ?_
   ((with_reducible apply rq2); rfl; rfl; rfl)
   exact AA (by rw [JK hok, NG h2])
 replace hi := jY hi
 have g1 := fr i jB
 have hni := Gk pn i jB
 by_cases hp : ¬ pn[i]'jB = i
 · repeat' (first | exact jA | refine Cb ?_ | refine two ?_ ?_ | refine AB fun c_ => ?_ | refine imp fun hc => ?_; try exact cx hc | refine all fun v_ => ?_)
   refine ⟨i + 1, ⟨by omega, fun j hj => ?_⟩, by omega, VS.of_le ?_⟩
   · by_cases e : j = i
     · subst e
       rw [hgood]; rintro ⟨a1, a2, _⟩; exact hp (by rw [← hni]; exact a2)
     · exact h2 j jB
   · exact leD
 replace hp := jY hp
 by_cases hr : ¬ rl[i]'jB = true
 · repeat' (first | exact jA | refine Cb ?_ | refine two ?_ ?_ | refine AB fun c_ => ?_ | refine imp fun hc => ?_; try exact cx hc | refine all fun v_ => ?_)
   all_goals first
    | (exfalso; simp_all; done)
    | (refine ⟨i + 1, ⟨by omega, fun j hj => ?_⟩, by omega, VS.of_le ?_⟩
       · by_cases e : j = i
         · subst e
           rw [hgood]; rintro ⟨a1, _⟩; exact hr (g1.2 a1)
         · exact h2 j jB
       · exact leD)
 replace hr := jY hr
 repeat' (first | exact jA | refine Cb ?_ | refine two ?_ ?_ | refine AB fun c_ => ?_ | refine imp fun hc => ?_; try exact cx hc | refine all fun v_ => ?_)
 all_goals first
  | (exfalso; simp_all; done)
  | skip
 refine AG (X := Bool × Nat) (fun y => [(1, .val (.pointer (some ⟨bg, 0, none⟩))), (4, .d (BA pn)), (6, .d (Ap rl)), (8, .int i), (9, .bool y.1), (10, .int y.2)]) (fun _ => [.cells bg 51 [.d (AO g.spots), .int g.init, .d (Bp g.next), .d (BA g.sets), .int g.many]]) (fun y => y.2 ≤ g.spots.length ∧ (y.1 = true ↔ lpP g pn i y.2 0)) (fun y => g.spots.length - y.2) (false, 0) ⟨Nat.zero_le _, by simp [aQ]⟩ (VS.of_le ?_) ?_
 · exact leD
 rintro ⟨b, k⟩ ⟨k1, k2⟩
 dsimp only at k1 k2 ⊢
 by_cases hk : k < g.spots.length
 · have hnx := g.nx_get k jB
   have hlj := hN (g.next[k]'jB) (jb _)
   have hnk := Gk pn k jB
   repeat' (first | exact jA | refine Cb ?_ | refine two ?_ ?_ | refine AB fun c_ => ?_ | refine imp fun hc => ?_; try exact cx hc | refine all fun v_ => ?_)
   refine AG (X := Bool × Nat) (fun y => [(1, .val (.pointer (some ⟨bg, 0, none⟩))), (4, .d (BA pn)), (6, .d (Ap rl)), (8, .int i), (9, .bool y.1), (10, .int k), (11, .int y.2)]) (fun _ => [.cells bg 51 [.d (AO g.spots), .int g.init, .d (Bp g.next), .d (BA g.sets), .int g.many]]) (fun y => y.2 ≤ (g.next[k]'jB).length ∧ (y.1 = true ↔ lpP g pn i k y.2)) (fun y => (g.next[k]'jB).length - y.2) (b, 0) ⟨Nat.zero_le _, k2⟩ (VS.of_le ?_) ?_
   · exact leD
   clear k2 b
   rintro ⟨b, j⟩ ⟨j1, k2⟩
   dsimp only at j1 k2 ⊢
   by_cases hj : j < (g.next[k]'jB).length
   · have hj' : j < (g.nx k).length := by rw [hnx]; exact hj
     have hke : (g.nx k)[j] = (g.next[k]'jB)[j] := by simp only [hnx]
     have hto := g.nx_lt hok k _ (jb hj')
     have hst := Yt (pn := pn) (i := i) hj'
     rw [hke] at hto hst
     have hnw := Gk pn ((g.next[k]'jB)[j]) jB
     rw [hnk, hnw] at hst
     cases b with
     | true =>
       repeat' (first | exact jA | refine Cb ?_ | refine two ?_ ?_ | refine AB fun c_ => ?_ | refine imp fun hc => ?_; try exact cx hc | refine all fun v_ => ?_)
       refine ⟨(true, j + 1), ⟨by dsimp only; omega, ?tru⟩, jC, VS.of_le ?lee⟩
       case lee => exact leD
       case tru =>
        dsimp only
        rw [hst, ← k2]
        simp
     | false =>
       by_cases c1 : pn[k]'jB = i
       · by_cases c2 : pn[(g.next[k]'jB)[j]]'jB = i
         · repeat' (first | exact jA | refine Cb ?_ | refine two ?_ ?_ | refine AB fun c_ => ?_ | refine imp fun hc => ?_; try exact cx hc | refine all fun v_ => ?_)
           refine ⟨(decide ((pn[(g.next[k]'jB)[j]]'jB : Int) = i), j + 1), ⟨by dsimp only; omega, ?tru⟩, jC, VS.of_le ?lee⟩
           case lee => exact leD
           case tru =>
            dsimp only
            rw [hst, ← k2]
            simp [c1, c2]
         · repeat' (first | exact jA | refine Cb ?_ | refine two ?_ ?_ | refine AB fun c_ => ?_ | refine imp fun hc => ?_; try exact cx hc | refine all fun v_ => ?_)
           refine ⟨(decide ((pn[(g.next[k]'jB)[j]]'jB : Int) = i), j + 1), ⟨by dsimp only; omega, ?tru⟩, jC, VS.of_le ?lee⟩
           case lee => exact leD
           case tru =>
            dsimp only
            rw [hst, ← k2]
            (simp [c1, c2]; omega)
       · repeat' (first | exact jA | refine Cb ?_ | refine two ?_ ?_ | refine AB fun c_ => ?_ | refine imp fun hc => ?_; try exact cx hc | refine all fun v_ => ?_)
         refine ⟨(false, j + 1), ⟨by dsimp only; omega, ?tru⟩, jC, VS.of_le ?lee⟩
         case lee => exact leD
         case tru =>
          dsimp only
          rw [hst, ← k2]
          simp [c1]
   have ej : j = (g.nx k).length := by rw [hnx]; omega
   rw [ej, Yd] at k2
   repeat' (first | exact jA | refine Cb ?_ | refine two ?_ ?_ | refine AB fun c_ => ?_ | refine imp fun hc => ?_; try exact cx hc | refine all fun v_ => ?_)
   refine ⟨(b, k + 1), ⟨by dsimp only; omega, k2⟩, jC, VS.of_le ?_⟩
   exact leD
 obtain rfl : k = g.spots.length := by omega
 rw [dI] at k2
 repeat' (first | exact jA | refine Cb ?_ | refine two ?_ ?_ | refine AB fun c_ => ?_ | refine imp fun hc => ?_; try exact cx hc | refine all fun v_ => ?_)
 refine AG (X := Bool × Nat) (fun y => [(1, .val (.pointer (some ⟨bg, 0, none⟩))), (4, .d (BA pn)), (6, .d (Ap rl)), (8, .int i), (9, .bool y.1), (12, .int (2 ^ y.2)), (13, .int y.2)]) (fun _ => [.cells bg 51 [.d (AO g.spots), .int g.init, .d (Bp g.next), .d (BA g.sets), .int g.many]]) (fun y => y.2 ≤ g.many ∧ (y.1 = true ↔ b = true ∧ ∀ s, s < y.2 → meP g pn i s g.spots.length)) (fun y => g.many - y.2) (b, 0) ⟨Nat.zero_le _, by simp⟩ (VS.of_le ?_) ?_
 · exact leD
 rintro ⟨c, s⟩ ⟨s1, s2⟩
 dsimp only at s1 s2 ⊢
 have hp2 := PL s jB
 by_cases hsm : ¬ s < g.many
 · obtain rfl : s = g.many := by omega
   have hfin : c = true ↔ Kr g i := by
    rw [s2, k2, hgood, ← g1]
    unfold I6
    rw [hni]
    exact ⟨fun h => ⟨hr, hp, h.1, h.2⟩, fun h => ⟨h.2.2.1, h.2.2.2⟩⟩
   cases c with
   | true =>
     repeat' (first | exact jA | refine Cb ?_ | refine two ?_ ?_ | refine AB fun c_ => ?_ | refine imp fun hc => ?_; try exact cx hc | refine all fun v_ => ?_)
     refine AI jE ?_
     ((with_reducible apply rq2); rfl; rfl; rfl)
     exact AA (by rw [JK hok, Sh h2 hi (hfin.1 rfl)])
   | false =>
     repeat' (first | exact jA | refine Cb ?_ | refine two ?_ ?_ | refine AB fun c_ => ?_ | refine imp fun hc => ?_; try exact cx hc | refine all fun v_ => ?_)
     refine ⟨i + 1, ⟨by omega, fun j hj => ?_⟩, by omega, VS.of_le ?_⟩
     · by_cases e : j = i
       · subst e
         exact fun h => by have := hfin.2 h; cases this
       · exact h2 j jB
     · exact leD
 replace hsm := jY hsm
 repeat' (first | exact jA | refine Cb ?_ | refine two ?_ ?_ | refine AB fun c_ => ?_ | refine imp fun hc => ?_; try exact cx hc | refine all fun v_ => ?_)
 refine AG (X := Bool × Nat) (fun y => [(1, .val (.pointer (some ⟨bg, 0, none⟩))), (4, .d (BA pn)), (6, .d (Ap rl)), (8, .int i), (9, .bool c), (12, .int (2 ^ s)), (13, .int s), (14, .bool y.1), (15, .int y.2)]) (fun _ => [.cells bg 51 [.d (AO g.spots), .int g.init, .d (Bp g.next), .d (BA g.sets), .int g.many]]) (fun y => y.2 ≤ g.spots.length ∧ (y.1 = true ↔ meP g pn i s y.2)) (fun y => g.spots.length - y.2) (false, 0) ⟨Nat.zero_le _, by simp [Yc]⟩ (VS.of_le ?_) ?_
 · exact leD
 rintro ⟨m, k⟩ ⟨m1, m2⟩
 dsimp only at m1 m2 ⊢
 by_cases hk : k < g.spots.length
 · have hst := a8 (g := g) (pn := pn) (i := i) (s := s) (k := k)
   have hnk := Gk pn k jB
   have hsk := Gk g.sets k jB
   have hsb := hgs k jB
   have hq : (0 : Int) ≤ ((g.sets[k]'jB : Nat) : Int) / 2 ^ s := Int.ediv_nonneg jB jB
   rw [hnk, hsk, ← cH] at hst
   cases m with
   | true =>
     repeat' (first | exact jA | refine Cb ?_ | refine two ?_ ?_ | refine AB fun c_ => ?_ | refine imp fun hc => ?_; try exact cx hc | refine all fun v_ => ?_)
     refine ⟨(true, k + 1), ⟨by dsimp only; omega, ?tru⟩, jC, VS.of_le ?lee⟩
     case lee => exact leD
     case tru =>
      dsimp only
      rw [hst, ← m2]
      simp
   | false =>
     by_cases c1 : pn[k]'jB = i
     · repeat' (first | exact jA | refine Cb ?_ | refine two ?_ ?_ | refine AB fun c_ => ?_ | refine imp fun hc => ?_; try exact cx hc | refine all fun v_ => ?_)
       refine ⟨(decide (((g.sets[k]'jB : Nat) : Int) / 2 ^ s % 2 = 1), k + 1), ⟨by dsimp only; omega, ?tru⟩, jC, VS.of_le ?lee⟩
       case lee => exact leD
       case tru =>
        dsimp only
        rw [hst, ← m2]
        simp [c1]
     · repeat' (first | exact jA | refine Cb ?_ | refine two ?_ ?_ | refine AB fun c_ => ?_ | refine imp fun hc => ?_; try exact cx hc | refine all fun v_ => ?_)
       refine ⟨(false, k + 1), ⟨by dsimp only; omega, ?tru⟩, jC, VS.of_le ?lee⟩
       case lee => exact leD
       case tru =>
        dsimp only
        rw [hst, ← m2]
        simp [c1]
 obtain rfl : k = g.spots.length := by omega
 have hp3 := PL (s + 1) jB
 have hp4 : (2 : Int) ^ (s + 1) = 2 ^ s * 2 := Int.pow_succ 2 s
 cases c with
 | true =>
   cases m with
   | true =>
     repeat' (first | exact jA | refine Cb ?_ | refine two ?_ ?_ | refine AB fun c_ => ?_ | refine imp fun hc => ?_; try exact cx hc | refine all fun v_ => ?_)
     refine ⟨(true, s + 1), ⟨by dsimp only; omega, ?_⟩, jC, VS.of_le ?_⟩
     · dsimp only
       have key : (∀ t, t < s + 1 → meP g pn i t g.spots.length) ↔ (∀ t, t < s → meP g pn i t g.spots.length) ∧ meP g pn i s g.spots.length :=
        ⟨fun h => ⟨fun t ht => h t jB, h s jB⟩, fun h t ht => by
         by_cases e : t = s
         · subst e; exact h.2
         · exact h.1 t jB⟩
       rw [key, ← m2, ← and_assoc, ← s2]
       simp
     · dsimp only
       rw [hp4]
       exact leD
   | false =>
     repeat' (first | exact jA | refine Cb ?_ | refine two ?_ ?_ | refine AB fun c_ => ?_ | refine imp fun hc => ?_; try exact cx hc | refine all fun v_ => ?_)
     refine ⟨(false, s + 1), ⟨by dsimp only; omega, ?_⟩, jC, VS.of_le ?_⟩
     · dsimp only
       have key : (∀ t, t < s + 1 → meP g pn i t g.spots.length) ↔ (∀ t, t < s → meP g pn i t g.spots.length) ∧ meP g pn i s g.spots.length :=
        ⟨fun h => ⟨fun t ht => h t jB, h s jB⟩, fun h t ht => by
         by_cases e : t = s
         · subst e; exact h.2
         · exact h.1 t jB⟩
       rw [key, ← m2, ← and_assoc, ← s2]
       simp
     · dsimp only
       rw [hp4]
       exact leD
 | false =>
   repeat' (first | exact jA | refine Cb ?_ | refine two ?_ ?_ | refine AB fun c_ => ?_ | refine imp fun hc => ?_; try exact cx hc | refine all fun v_ => ?_)
   refine ⟨(false, s + 1), ⟨by dsimp only; omega, ?_⟩, jC, VS.of_le ?_⟩
   · dsimp only
     have key : (∀ t, t < s + 1 → meP g pn i t g.spots.length) ↔ (∀ t, t < s → meP g pn i t g.spots.length) ∧ meP g pn i s g.spots.length :=
      ⟨fun h => ⟨fun t ht => h t jB, h s jB⟩, fun h t ht => by
       by_cases e : t = s
       · subst e; exact h.2
       · exact h.1 t jB⟩
     rw [key, ← m2, ← and_assoc, ← s2]
     simp
   · dsimp only
     rw [hp4]
     exact leD
end Go.Proofs.YtnlfhnbcdfdhgaaGreatDoor
