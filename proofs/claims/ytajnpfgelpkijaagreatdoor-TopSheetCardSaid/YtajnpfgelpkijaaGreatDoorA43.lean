/- A bundle of this claim's own texts: M7 W2. -/
import Derived.Test.YtajnpfgelpkijaaGreatDoorA10
import Derived.Test.YtajnpfgelpkijaaGreatDoorA37
import Derived.Test.YtajnpfgelpkijaaGreatDoorA41
set_option linter.unusedVariables false
set_option linter.unusedSimpArgs false
set_option maxRecDepth 100000
set_option maxHeartbeats 4000000
namespace Go.Proofs.YtajnpfgelpkijaaGreatDoor
open Go Go.Av Go.Sp

theorem WL : Cal Tryz.prog 96 := Cal.of Tryz.func96 (by kernel_rfl) (by kernel_rfl)
theorem gA (m : Md) : ACr Tryz.prog GP 96 [mdA m] (.tup [.int (codeF m (inits m)).1, .int (codeF m (inits m)).2]) := by
 refine AC.factI (f := Vr.cells) (xs := m.vars) (.agg .here) fun hlv => ?_
 refine AK (ts := [2, 3]) Tryz.f96.ntmps Tryz.func96 rfl rfl rfl (by simp [Tryz.ntmps96]) fun W I => ?_
 have hin : (inits m).length = m.vars.length := by simp [inits]
 repeat' (first
  | exact True.intro | refine AJ ?_ | refine two ?_ ?_ | refine AG fun c_ => ?_
  | (refine imp fun hc => ?_) <;> try exact cx1 hc
  | refine all fun v_ => ?_)
 obtain ⟨bm, rfl⟩ : ∃ x, x = v_ := ⟨v_, rfl⟩
 refine FQ (E := 3) (sz := 1) Ag ?_
 refine AL (X := Nat × Sl) (fun y => [(1, .val (.pointer (some ⟨bm, 0, none⟩))), (4, .val y.2.v), (8, .d (Ba m.vars)), (9, .int m.vars.length), (10, .int y.1)]) (fun y => [AF y.2.v 3 1 Ag ((inits m).take y.1), .cells bm 25 [.d (Ba m.vars), .d (BH m.rules)]]) (fun y => y.1 ≤ m.vars.length) (fun y => m.vars.length - y.1) (0, Sl.nil) (Nat.zero_le _) (VS.of_le ?_) ?_
 · exact leD
 rintro ⟨i, q⟩ h1
 dsimp only at h1 ⊢
 have hlen : ((inits m).take i).length = i := by rw [List.length_take]; omega
 by_cases hi : i < m.vars.length
 · have et : (inits m).take i ++ [m.vars[i].init] = (inits m).take (i + 1) := by rw [List.take_succ_eq_append_getElem (by omega)]; simp [inits]
   repeat' (first
    | exact True.intro | refine AJ ?_ | refine two ?_ ?_ | refine AG fun c_ => ?_
    | (refine imp fun hc => ?_) <;> try exact cx1 hc
    | refine all fun v_ => ?_)
   refine ⟨(i + 1, v_), by dsimp only; omega, by dsimp only; omega, ?_⟩
   dsimp only
   rw [← et]
   refine VS.take (by exact AB) ?_
   exact leD
 obtain rfl : i = m.vars.length := by omega
 rw [List.take_of_length_le (by omega)]
 refine Rh (Gh (h1 := []) (h' := [.cells bm 25 [.d (Ba m.vars), .d (BH m.rules)]]) 8 rfl rfl (fun _ => rfl) (by omega) (CvE.cons (t := 4) rfl .here (CvE.refl _ _ _)) (CvH.refl _)) ?_
 repeat' (first
  | refine ca SX (Code _ _) ?_
  | exact True.intro | refine AJ ?_ | refine two ?_ ?_ | refine AG fun c_ => ?_
  | (refine imp fun hc => ?_) <;> try exact cx1 hc
  | refine all fun v_ => ?_)
 refine AO (VS.drop (List.nil_sublist _)) ?_
 ((with_reducible apply rq2); rfl; rfl; rfl)
 exact AD rfl

theorem cn (G : List (Nat × List D)) (g : Gr) : ACr Tryz.prog G 62 [grA g] (.tup [.int (Cp g).1, .int (Cp g).2]) := by
 refine AK (ts := [2, 3]) Tryz.f62.ntmps Tryz.func62 rfl rfl rfl (by simp [Tryz.ntmps62]) fun W I => ?_
 have E := Zi G g
 by_cases hk : ¬ okG g
 · rw [DH hk] at E
   dsimp only at E
   repeat' (first
    | refine ca Ih (E) ?_
    | exact True.intro | refine Gi ?_ | refine two ?_ ?_ | refine AG fun c_ => ?_
    | (refine imp fun hc => ?_) <;> try exact cx hc
    | refine all fun v_ => ?_)
   refine AO (VS.drop (List.nil_sublist _)) ?_
   ((with_reducible apply rq2); rfl; rfl; rfl)
   exact AD (by rw [VD hk])
 obtain ⟨g, rfl, hok⟩ := Ix (Decidable.not_not.1 hk)
 clear hk
 have E2 := XN G g.gr
 rw [IV hok, ← MD, ← Fw] at E
 rw [JJ hok] at E2
 rw [Lf] at E E2 ⊢
 dsimp only at E E2
 have hs := hok.size
 have hpl := DX g
 have E3 := gz G g hok (A1 g) hpl (R4 g)
 have lr : (CX g).length = g.spots.length := by simp [CX]
 have lf : (HK g (A1 g)).length = g.spots.length := by simp [HK]
 have fr : ∀ (i : Nat) (h : i < (CX g).length), (CX g)[i] = true ↔ Cu g i := fun i h => by simp [CX]
 have ff : ∀ (i : Nat) (h : i < (HK g (A1 g)).length), (HK g (A1 g))[i] = true ↔ Fk g (A1 g) i := fun i h => by simp [HK]
 generalize CX g = rl at E2 lr fr
 generalize HK g (A1 g) = fl at E3 lf ff
 repeat' (first
  | refine ca Ih (E) ?_
  | refine ca OV (E2) ?_
  | refine ca VV (E3) ?_
  | exact True.intro | refine Gi ?_ | refine two ?_ ?_ | refine AG fun c_ => ?_
  | (refine imp fun hc => ?_) <;> try exact cx hc
  | refine all fun v_ => ?_)
 rename Nat => bg
 refine AL (X := Nat) (fun i => [(6, .d (Bv rl)), (25, .d (Bv fl)), (26, .int g.spots.length), (27, .int i)]) (fun _ => [.cells bg 99 [.d (AN g.spots), .int g.init, .d (BJ g.next), .d (Af g.sets), .int g.many]]) (fun i => i ≤ g.spots.length ∧ ∀ j, j < i → ¬ Ej g j) (fun i => g.spots.length - i) 0 ⟨Nat.zero_le _, fun _ h => absurd h (Nat.not_lt_zero _)⟩ (VS.of_le ?_) ?_
 · rw [← lf]
   exact leD
 rintro i ⟨h1, h2⟩
 by_cases hi : ¬ i < g.spots.length
 · obtain rfl : i = g.spots.length := by omega
   repeat' (first
    | exact True.intro | refine Gi ?_ | refine two ?_ ?_ | refine AG fun c_ => ?_
    | (refine imp fun hc => ?_) <;> try exact cx hc
    | refine all fun v_ => ?_)
   refine AO (VS.drop (List.nil_sublist _)) ?_
   ((with_reducible apply rq2); rfl; rfl; rfl)
   exact AD (by rw [Hu hok, MQ h2])
 replace hi := Decidable.not_not.1 hi
 have g1 := fr i (by omega)
 have g2 := ff i (by omega)
 repeat' (first
  | exact True.intro | refine Gi ?_ | refine two ?_ ?_ | refine AG fun c_ => ?_
  | (refine imp fun hc => ?_) <;> try exact cx hc
  | refine all fun v_ => ?_)
 all_goals first
  | (refine ⟨i + 1, ⟨by omega, fun j hj => ?_⟩, by omega, VS.of_le ?_⟩
     · by_cases e : j = i
       · subst e
         rintro ⟨a1, a2⟩
         simp_all
       · exact h2 j (by omega)
     · exact leD)
  | (refine AO (VS.drop (List.nil_sublist _)) ?_
     ((with_reducible apply rq2); rfl; rfl; rfl)
     exact AD (by rw [Hu hok, Rz h2 hi ⟨g1.1 (by assumption), g2.1 (by assumption)⟩]))
end Go.Proofs.YtajnpfgelpkijaaGreatDoor
