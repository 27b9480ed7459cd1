/- A bundle of this claim's own texts: W3. -/
import Derived.Test.YtibahljljjkceaaGreatDoorA44
set_option linter.unusedVariables false
set_option linter.unusedSimpArgs false
set_option maxRecDepth 100000
set_option maxHeartbeats 4000000
namespace Go.Proofs.YtibahljljjkceaaGreatDoor
open Go Go.Av Go.Sp

theorem Zu (G : List (Nat × List D)) (g : Gr) (hw : ∀ g' : Gn, g'.gr = g → g'.ways g'.next.length ≤ 68719476736) : ACr Tryz.prog G 34 [grA g] (.tup [.int (CK g).1, .int (CK g).2]) := by
 by_cases hk : ¬ okG g
 · have E := JD G g hw
   rw [Ck hk] at E
   dsimp only at E
   refine AN (ts := [2, 3]) Tryz.f34.ntmps Tryz.func34 rfl rfl rfl (by simp [Tryz.ntmps34]) fun W I => ?_
   repeat' (first
    | refine ca GI (E) ?_
    | exact True.intro | refine CJ ?_ | refine two ?_ ?_ | refine AB fun c_ => ?_
    | (refine imp fun hc => ?_) <;> try exact cx hc
    | refine all fun v_ => ?_)
   refine AH (VS.drop (List.nil_sublist _)) ?_
   ((with_reducible apply rq2); rfl; rfl; rfl)
   exact AA (by rw [NB hk])
 obtain ⟨g, rfl, hok⟩ := Fy (Decidable.not_not.1 hk)
 clear hk
 have E := JD G g.gr hw
 have E2 := S9 G g.gr
 rw [FG hok, ← IQ, ← FX] at E
 rw [Ej hok] at E2
 rw [HN] at E E2 ⊢
 dsimp only at E E2
 refine AC.factN (g := JT) (f := F0) (xss := g.next) 1 8 (fun _ => rfl) (.agg (.there (.there .here))) fun hN => ?_
 refine AN (ts := [2, 3]) Tryz.f34.ntmps Tryz.func34 rfl rfl rfl (by simp [Tryz.ntmps34]) fun W I => ?_
 have hs := hok.size
 have hnl := hok.next
 have hsl := hok.sets
 have hm6 := hok.many
 have h64 := OP hok
 have hgs : ∀ (i : Nat) (h : i < g.sets.length), g.sets[i] < 64 := fun i h => by have := hok.bits i h; omega
 have hpl := D0 g
 have hplt := Oq g
 have lr : (Bb g).length = g.spots.length := by simp [Bb]
 have fr : ∀ (i : Nat) (h : i < (Bb g).length), (Bb g)[i] = true ↔ CC g i := fun i h => by simp [Bb]
 have hgood : ∀ i, GU g i ↔ CC g i ∧ FW g (BZ g) i := fun i => Iff.rfl
 generalize Bb g = rl at E2 lr fr
 generalize BZ g = pn at E hpl hplt hgood
 repeat' (first
  | refine ca GI (E) ?_
  | refine ca MQ (E2) ?_
  | exact True.intro | refine CJ ?_ | refine two ?_ ?_ | refine AB fun c_ => ?_
  | (refine imp fun hc => ?_) <;> try exact cx hc
  | refine all fun v_ => ?_)
 rename Nat => bg
 refine AG (X := Nat) (fun i => [(1, .val (.pointer (some ⟨bg, 0, none⟩))), (4, .d (AT pn)), (6, .d (Ai rl)), (8, .int i)]) (fun _ => [.cells bg 62 [.d (AO g.spots), .int g.init, .d (As g.next), .d (AT g.sets), .int g.many]]) (fun i => i ≤ g.spots.length ∧ ∀ j, j < i → ¬ GU g j) (fun i => g.spots.length - i) 0 ⟨Nat.zero_le _, fun _ h => absurd h (Nat.not_lt_zero _)⟩ (VS.of_le ?_) ?_
 · exact leD
 rintro i ⟨h1, h2⟩
 by_cases hi : ¬ i < g.spots.length
 · obtain rfl : i = g.spots.length := by omega
   repeat' (first
    | exact True.intro | refine CJ ?_ | refine two ?_ ?_ | refine AB fun c_ => ?_
    | (refine imp fun hc => ?_) <;> try exact cx hc
    | refine all fun v_ => ?_)
   refine AH (VS.drop (List.nil_sublist _)) ?_
   ((with_reducible apply rq2); rfl; rfl; rfl)
   exact AA (by rw [GH hok, Lj h2])
 replace hi := Decidable.not_not.1 hi
 have g1 := fr i (by omega)
 have hni := B4 pn i (by omega)
 by_cases hp : ¬ pn[i]'(by omega) = i
 · repeat' (first
    | exact True.intro | refine CJ ?_ | refine two ?_ ?_ | refine AB fun c_ => ?_
    | (refine imp fun hc => ?_) <;> try exact cx hc
    | refine all fun v_ => ?_)
   refine ⟨i + 1, ⟨by omega, fun j hj => ?_⟩, by omega, VS.of_le ?_⟩
   · by_cases e : j = i
     · subst e
       rw [hgood]; rintro ⟨a1, a2, _⟩; exact hp (by rw [← hni]; exact a2)
     · exact h2 j (by omega)
   · exact leD
 replace hp := Decidable.not_not.1 hp
 by_cases hr : ¬ rl[i]'(by omega) = true
 · repeat' (first
    | exact True.intro | refine CJ ?_ | refine two ?_ ?_ | refine AB fun c_ => ?_
    | (refine imp fun hc => ?_) <;> try exact cx hc
    | refine all fun v_ => ?_)
   all_goals first
    | (exfalso; simp_all; done)
    | (refine ⟨i + 1, ⟨by omega, fun j hj => ?_⟩, by omega, VS.of_le ?_⟩
       · by_cases e : j = i
         · subst e
           rw [hgood]; rintro ⟨a1, _⟩; exact hr (g1.2 a1)
         · exact h2 j (by omega)
       · exact leD)
 replace hr := Decidable.not_not.1 hr
 repeat' (first
  | exact True.intro | refine CJ ?_ | refine two ?_ ?_ | refine AB fun c_ => ?_
  | (refine imp fun hc => ?_) <;> try exact cx hc
  | refine all fun v_ => ?_)
 all_goals first
  | (exfalso; simp_all; done)
  | skip
 refine AG (X := Bool × Nat) (fun y => [(1, .val (.pointer (some ⟨bg, 0, none⟩))), (4, .d (AT pn)), (6, .d (Ai rl)), (8, .int i), (9, .bool y.1), (10, .int y.2)]) (fun _ => [.cells bg 62 [.d (AO g.spots), .int g.init, .d (As g.next), .d (AT g.sets), .int g.many]]) (fun y => y.2 ≤ g.spots.length ∧ (y.1 = true ↔ lpP g pn i y.2 0)) (fun y => g.spots.length - y.2) (false, 0) ⟨Nat.zero_le _, by simp [Ui]⟩ (VS.of_le ?_) ?_
 · exact leD
 rintro ⟨b, k⟩ ⟨k1, k2⟩
 dsimp only at k1 k2 ⊢
 by_cases hk : k < g.spots.length
 · have hnx := g.nx_get k (by omega)
   have hlj := hN (g.next[k]'(by omega)) (List.getElem_mem _)
   have hnk := B4 pn k (by omega)
   repeat' (first
    | exact True.intro | refine CJ ?_ | refine two ?_ ?_ | refine AB fun c_ => ?_
    | (refine imp fun hc => ?_) <;> try exact cx hc
    | refine all fun v_ => ?_)
   refine AG (X := Bool × Nat) (fun y => [(1, .val (.pointer (some ⟨bg, 0, none⟩))), (4, .d (AT pn)), (6, .d (Ai rl)), (8, .int i), (9, .bool y.1), (10, .int k), (11, .int y.2)]) (fun _ => [.cells bg 62 [.d (AO g.spots), .int g.init, .d (As g.next), .d (AT g.sets), .int g.many]]) (fun y => y.2 ≤ (g.next[k]'(by omega)).length ∧ (y.1 = true ↔ lpP g pn i k y.2)) (fun y => (g.next[k]'(by omega)).length - y.2) (b, 0) ⟨Nat.zero_le _, k2⟩ (VS.of_le ?_) ?_
   · exact leD
   clear k2 b
   rintro ⟨b, j⟩ ⟨j1, k2⟩
   dsimp only at j1 k2 ⊢
   by_cases hj : j < (g.next[k]'(by omega)).length
   · have hj' : j < (g.nx k).length := by rw [hnx]; exact hj
     have hke : (g.nx k)[j] = (g.next[k]'(by omega))[j] := by simp only [hnx]
     have hto := g.nx_lt hok k _ (List.getElem_mem hj')
     have hst := We (pn := pn) (i := i) hj'
     rw [hke] at hto hst
     have hnw := B4 pn ((g.next[k]'(by omega))[j]) (by omega)
     rw [hnk, hnw] at hst
     cases b with
     | true =>
       repeat' (first
        | exact True.intro | refine CJ ?_ | refine two ?_ ?_ | refine AB fun c_ => ?_
        | (refine imp fun hc => ?_) <;> try exact cx hc
        | refine all fun v_ => ?_)
       refine ⟨(true, j + 1), ⟨by dsimp only; omega, ?tru⟩, by dsimp only; omega, VS.of_le ?lee⟩
       case lee => exact leD
       case tru =>
        dsimp only
        rw [hst, ← k2]
        simp
     | false =>
       by_cases c1 : pn[k]'(by omega) = i
       · by_cases c2 : pn[(g.next[k]'(by omega))[j]]'(by omega) = i
         · repeat' (first
            | exact True.intro | refine CJ ?_ | refine two ?_ ?_ | refine AB fun c_ => ?_
            | (refine imp fun hc => ?_) <;> try exact cx hc
            | refine all fun v_ => ?_)
           refine ⟨(decide ((pn[(g.next[k]'(by omega))[j]]'(by omega) : Int) = i), j + 1), ⟨by dsimp only; omega, ?tru⟩, by dsimp only; omega, VS.of_le ?lee⟩
           case lee => exact leD
           case tru =>
            dsimp only
            rw [hst, ← k2]
            simp [c1, c2]
         · repeat' (first
            | exact True.intro | refine CJ ?_ | refine two ?_ ?_ | refine AB fun c_ => ?_
            | (refine imp fun hc => ?_) <;> try exact cx hc
            | refine all fun v_ => ?_)
           refine ⟨(decide ((pn[(g.next[k]'(by omega))[j]]'(by omega) : Int) = i), j + 1), ⟨by dsimp only; omega, ?tru⟩, by dsimp only; omega, VS.of_le ?lee⟩
           case lee => exact leD
           case tru =>
            dsimp only
            rw [hst, ← k2]
            (simp [c1, c2]; omega)
       · repeat' (first
          | exact True.intro | refine CJ ?_ | refine two ?_ ?_ | refine AB fun c_ => ?_
          | (refine imp fun hc => ?_) <;> try exact cx hc
          | refine all fun v_ => ?_)
         refine ⟨(false, j + 1), ⟨by dsimp only; omega, ?tru⟩, by dsimp only; omega, VS.of_le ?lee⟩
         case lee => exact leD
         case tru =>
          dsimp only
          rw [hst, ← k2]
          simp [c1]
   have ej : j = (g.nx k).length := by rw [hnx]; omega
   rw [ej, VR] at k2
   repeat' (first
    | exact True.intro | refine CJ ?_ | refine two ?_ ?_ | refine AB fun c_ => ?_
    | (refine imp fun hc => ?_) <;> try exact cx hc
    | refine all fun v_ => ?_)
   refine ⟨(b, k + 1), ⟨by dsimp only; omega, k2⟩, by dsimp only; omega, VS.of_le ?_⟩
   exact leD
 obtain rfl : k = g.spots.length := by omega
 rw [Xr] at k2
 repeat' (first
  | exact True.intro | refine CJ ?_ | refine two ?_ ?_ | refine AB fun c_ => ?_
  | (refine imp fun hc => ?_) <;> try exact cx hc
  | refine all fun v_ => ?_)
 refine AG (X := Bool × Nat) (fun y => [(1, .val (.pointer (some ⟨bg, 0, none⟩))), (4, .d (AT pn)), (6, .d (Ai rl)), (8, .int i), (9, .bool y.1), (12, .int (2 ^ y.2)), (13, .int y.2)]) (fun _ => [.cells bg 62 [.d (AO g.spots), .int g.init, .d (As g.next), .d (AT g.sets), .int g.many]]) (fun y => y.2 ≤ g.many ∧ (y.1 = true ↔ b = true ∧ ∀ s, s < y.2 → meP g pn i s g.spots.length)) (fun y => g.many - y.2) (b, 0) ⟨Nat.zero_le _, by simp⟩ (VS.of_le ?_) ?_
 · exact leD
 rintro ⟨c, s⟩ ⟨s1, s2⟩
 dsimp only at s1 s2 ⊢
 have hp2 := Ma s (by omega)
 by_cases hsm : ¬ s < g.many
 · obtain rfl : s = g.many := by omega
   have hfin : c = true ↔ GU g i := by
    rw [s2, k2, hgood, ← g1]
    unfold FW
    rw [hni]
    exact ⟨fun h => ⟨hr, hp, h.1, h.2⟩, fun h => ⟨h.2.2.1, h.2.2.2⟩⟩
   cases c with
   | true =>
     repeat' (first
      | exact True.intro | refine CJ ?_ | refine two ?_ ?_ | refine AB fun c_ => ?_
      | (refine imp fun hc => ?_) <;> try exact cx hc
      | refine all fun v_ => ?_)
     refine AH (VS.drop (List.nil_sublist _)) ?_
     ((with_reducible apply rq2); rfl; rfl; rfl)
     exact AA (by rw [GH hok, Pk h2 hi (hfin.1 rfl)])
   | false =>
     repeat' (first
      | exact True.intro | refine CJ ?_ | refine two ?_ ?_ | refine AB fun c_ => ?_
      | (refine imp fun hc => ?_) <;> try exact cx hc
      | refine all fun v_ => ?_)
     refine ⟨i + 1, ⟨by omega, fun j hj => ?_⟩, by omega, VS.of_le ?_⟩
     · by_cases e : j = i
       · subst e
         exact fun h => by have := hfin.2 h; cases this
       · exact h2 j (by omega)
     · exact leD
 replace hsm := Decidable.not_not.1 hsm
 repeat' (first
  | exact True.intro | refine CJ ?_ | refine two ?_ ?_ | refine AB fun c_ => ?_
  | (refine imp fun hc => ?_) <;> try exact cx hc
  | refine all fun v_ => ?_)
 refine AG (X := Bool × Nat) (fun y => [(1, .val (.pointer (some ⟨bg, 0, none⟩))), (4, .d (AT pn)), (6, .d (Ai rl)), (8, .int i), (9, .bool c), (12, .int (2 ^ s)), (13, .int s), (14, .bool y.1), (15, .int y.2)]) (fun _ => [.cells bg 62 [.d (AO g.spots), .int g.init, .d (As g.next), .d (AT g.sets), .int g.many]]) (fun y => y.2 ≤ g.spots.length ∧ (y.1 = true ↔ meP g pn i s y.2)) (fun y => g.spots.length - y.2) (false, 0) ⟨Nat.zero_le _, by simp [VD]⟩ (VS.of_le ?_) ?_
 · exact leD
 rintro ⟨m, k⟩ ⟨m1, m2⟩
 dsimp only at m1 m2 ⊢
 by_cases hk : k < g.spots.length
 · have hst := Wp (g := g) (pn := pn) (i := i) (s := s) (k := k)
   have hnk := B4 pn k (by omega)
   have hsk := B4 g.sets k (by omega)
   have hsb := hgs k (by omega)
   have hq : (0 : Int) ≤ ((g.sets[k]'(by omega) : Nat) : Int) / 2 ^ s := Int.ediv_nonneg (by omega) (by omega)
   rw [hnk, hsk, ← Ki] at hst
   cases m with
   | true =>
     repeat' (first
      | exact True.intro | refine CJ ?_ | refine two ?_ ?_ | refine AB fun c_ => ?_
      | (refine imp fun hc => ?_) <;> try exact cx hc
      | refine all fun v_ => ?_)
     refine ⟨(true, k + 1), ⟨by dsimp only; omega, ?tru⟩, by dsimp only; omega, VS.of_le ?lee⟩
     case lee => exact leD
     case tru =>
      dsimp only
      rw [hst, ← m2]
      simp
   | false =>
     by_cases c1 : pn[k]'(by omega) = i
     · repeat' (first
        | exact True.intro | refine CJ ?_ | refine two ?_ ?_ | refine AB fun c_ => ?_
        | (refine imp fun hc => ?_) <;> try exact cx hc
        | refine all fun v_ => ?_)
       refine ⟨(decide (((g.sets[k]'(by omega) : Nat) : Int) / 2 ^ s % 2 = 1), k + 1), ⟨by dsimp only; omega, ?tru⟩, by dsimp only; omega, VS.of_le ?lee⟩
       case lee => exact leD
       case tru =>
        dsimp only
        rw [hst, ← m2]
        simp [c1]
     · repeat' (first
        | exact True.intro | refine CJ ?_ | refine two ?_ ?_ | refine AB fun c_ => ?_
        | (refine imp fun hc => ?_) <;> try exact cx hc
        | refine all fun v_ => ?_)
       refine ⟨(false, k + 1), ⟨by dsimp only; omega, ?tru⟩, by dsimp only; omega, VS.of_le ?lee⟩
       case lee => exact leD
       case tru =>
        dsimp only
        rw [hst, ← m2]
        simp [c1]
 obtain rfl : k = g.spots.length := by omega
 have hp3 := Ma (s + 1) (by omega)
 have hp4 : (2 : Int) ^ (s + 1) = 2 ^ s * 2 := Int.pow_succ 2 s
 cases c with
 | true =>
   cases m with
   | true =>
     repeat' (first
      | exact True.intro | refine CJ ?_ | refine two ?_ ?_ | refine AB fun c_ => ?_
      | (refine imp fun hc => ?_) <;> try exact cx hc
      | refine all fun v_ => ?_)
     refine ⟨(true, s + 1), ⟨by dsimp only; omega, ?_⟩, by dsimp only; omega, VS.of_le ?_⟩
     · dsimp only
       have key : (∀ t, t < s + 1 → meP g pn i t g.spots.length) ↔ (∀ t, t < s → meP g pn i t g.spots.length) ∧ meP g pn i s g.spots.length :=
        ⟨fun h => ⟨fun t ht => h t (by omega), h s (by omega)⟩, fun h t ht => by
         by_cases e : t = s
         · subst e; exact h.2
         · exact h.1 t (by omega)⟩
       rw [key, ← m2, ← and_assoc, ← s2]
       simp
     · dsimp only
       rw [hp4]
       exact leD
   | false =>
     repeat' (first
      | exact True.intro | refine CJ ?_ | refine two ?_ ?_ | refine AB fun c_ => ?_
      | (refine imp fun hc => ?_) <;> try exact cx hc
      | refine all fun v_ => ?_)
     refine ⟨(false, s + 1), ⟨by dsimp only; omega, ?_⟩, by dsimp only; omega, VS.of_le ?_⟩
     · dsimp only
       have key : (∀ t, t < s + 1 → meP g pn i t g.spots.length) ↔ (∀ t, t < s → meP g pn i t g.spots.length) ∧ meP g pn i s g.spots.length :=
        ⟨fun h => ⟨fun t ht => h t (by omega), h s (by omega)⟩, fun h t ht => by
         by_cases e : t = s
         · subst e; exact h.2
         · exact h.1 t (by omega)⟩
       rw [key, ← m2, ← and_assoc, ← s2]
       simp
     · dsimp only
       rw [hp4]
       exact leD
 | false =>
   repeat' (first
    | exact True.intro | refine CJ ?_ | refine two ?_ ?_ | refine AB fun c_ => ?_
    | (refine imp fun hc => ?_) <;> try exact cx hc
    | refine all fun v_ => ?_)
   refine ⟨(false, s + 1), ⟨by dsimp only; omega, ?_⟩, by dsimp only; omega, VS.of_le ?_⟩
   · dsimp only
     have key : (∀ t, t < s + 1 → meP g pn i t g.spots.length) ↔ (∀ t, t < s → meP g pn i t g.spots.length) ∧ meP g pn i s g.spots.length :=
      ⟨fun h => ⟨fun t ht => h t (by omega), h s (by omega)⟩, fun h t ht => by
       by_cases e : t = s
       · subst e; exact h.2
       · exact h.1 t (by omega)⟩
     rw [key, ← m2, ← and_assoc, ← s2]
     simp
   · dsimp only
     rw [hp4]
     exact leD
end Go.Proofs.YtibahljljjkceaaGreatDoor
