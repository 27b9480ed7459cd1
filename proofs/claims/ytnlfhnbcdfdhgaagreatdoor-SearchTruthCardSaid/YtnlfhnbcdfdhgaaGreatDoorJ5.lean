/- Own texts. -/
import Derived.Test.YtnlfhnbcdfdhgaaGreatDoorF41
import Derived.Test.YtnlfhnbcdfdhgaaGreatDoorJ4
set_option linter.unusedVariables false
set_option linter.unusedSimpArgs false
set_option maxRecDepth 100000
set_option maxHeartbeats 4000000
namespace Go.Sp
open Go Go.Av
theorem gK : ∀ (l : List Fo) (i : Nat), (DU l i).length = nAh l
 | [], _ => rfl
 | o :: l, i => by
   have ih := gK l (i + 1)
   rw [DU, Es]
   split
   · rw [List.length_cons, ih]; omega
   · rw [ih]; omega
theorem ib {t : Tk} (h : nAh t.formula ≤ 2) : BK t ≤ 4 := by
 have h1 : (Ai t.formula t.props.length).1.length ≤ 2 := by
  unfold Ai
  split
  · exact Nat.zero_le _
  · rw [gK]; exact h
 unfold BK
 generalize (Ai t.formula t.props.length).1.length = n at h1
 have : n = 0 ∨ n = 1 ∨ n = 2 := by omega
 rcases this with rfl | rfl | rfl <;> decide
theorem iw {t : Tk} (h : BL t = 0) (hp : AQ t.model.vars ≤ 16) (ha : nAh t.formula ≤ 2) (i : Nat) : (spF t i).length ≤ 64 := by
 have hc := ib ha
 have hv := Ke h i
 have hn : ((spF t i).map fun b => b.kind * 4 + b.val).Nodup := by
  unfold List.Nodup
  rw [List.pairwise_map]
  refine List.Pairwise.imp_of_mem ?_ (Dv t i)
  intro a b ha hb hne he
  have h1 := hv a ha
  have h2 := hv b hb
  unfold Sm at h1 h2
  refine hne (Fo.ext' ?_ ?_) <;> omega
 have := Nk 64 _ hn fun x hx => by
  obtain ⟨b, hb, rfl⟩ := List.mem_map.1 hx
  have h1 := hv b hb
  unfold Sm at h1
  omega
 rwa [List.length_map] at this
theorem ij {t : Tk} {e : Exp} (g : Grown t e) (ms : List Fo) (hN : e.spots.length ≤ 1000) : (runM t (ms ++ [⟨4, 0⟩, ⟨1, 1000⟩])).up = true ∧ (runM t (ms ++ [⟨4, 0⟩, ⟨1, 1000⟩])).n = e.spots.length := by
 rw [ik]
 show (mvF t (mvF t (runM t ms) ⟨4, 0⟩) ⟨1, 1000⟩).up = true ∧ (mvF t (mvF t (runM t ms) ⟨4, 0⟩) ⟨1, 1000⟩).n = _
 have r := (g.runI ms).mv g ⟨4, 0⟩
 rw [HG] at r ⊢
 rw [Hh rfl]
 obtain ⟨a1, a2, a3, a4⟩ := HE g (1000 : Int).toNat r.ms
 refine ⟨a1, ?_⟩
 rw [a3]
 show min (_ + 1000) _ = _
 omega
end Go.Sp
namespace Go.Proofs.YtnlfhnbcdfdhgaaGreatDoor
open Go Go.Av Go.Sp
theorem fy (d : De) (hd : TY d) (raw : List Fo) (hr : BH raw) (l : List Fo) (hl : BH l) : ACr Tryz.prog GP 13 [deA d, .d (AO raw), .d (AO l)] (.bool true) := by
 have hV := VerK d (FoG.of raw (t := 2) (by decide))
 have hfr := fk (Ho d (FoG.of raw (t := 2) (by decide))).choose_spec
 have h64 := fun i => iw (bC d (FoG.of raw (t := 2) (by decide))) (aL d).2 (RF raw 2).2.1 i
 have hT := Td GP d hd raw hr 2 (by decide)
 have hf := FoG.of raw (t := 2) (by decide)
 obtain ⟨e, he⟩ := Ho d hf
 have hE := GK (DP d (Bi raw 2))
 rw [ON he, he] at hE
 dsimp only at hE
 have g := HO he
 have ei : (A3 (DP d (Bi raw 2))).1.length = nkF (DP d (Bi raw 2)) 0 := rfl
 rw [ei] at hE
 generalize (Ai (DP d (Bi raw 2)).formula (DP d (Bi raw 2)).props.length).1.length = am at hE
 generalize DP d (Bi raw 2) = t at hT he hE g hV hfr h64
 clear ei hf
 have hN := g.few
 have hN64 : e.spots.length ≤ 64 := by rw [g.spots]; exact h64 _
 have hh : hD t = decide ((C5 (exG t)).2 ≠ 0) := Bool.eq_iff_iff.2 (by rw [gB, decide_eq_true_iff]; exact hfr.symm)
 rw [hh] at hV
 clear hfr h64 hh
 have hMa := ic l hl 30 (by decide)
 have oka := Ie l 30
 have la := F2 l 30
 generalize C8 l 30 = ma at hMa oka la
 have ok4 : ∀ x ∈ [(⟨4, 0⟩ : Fo), ⟨1, 1000⟩], okM x := fun x h => by
  rcases List.mem_cons.1 h with rfl | h
  · unfold okM; decide
  · rw [List.mem_singleton.1 h]; unfold okM; decide
 have hla : (ma ++ [(⟨4, 0⟩ : Fo), ⟨1, 1000⟩]).length = ma.length + 2 := by simp
 have hSa := Hk t e he (ma ++ [⟨4, 0⟩, ⟨1, 1000⟩]) (Kf (il oka ok4) (by omega))
 obtain ⟨hu, hn⟩ := ij g ma (by omega)
 unfold ML at hSa
 generalize runM t (ma ++ [⟨4, 0⟩, ⟨1, 1000⟩]) = x at hSa hu hn
 have hnk : nkF t x.n = x.n := by rw [hn, g.nk_end]
 rw [hu, hnk, decide_eq_true rfl] at hSa
 generalize decide ((C5 (exG t)).2 ≠ 0) = fv at hSa hV
 refine AJ (ts := [6]) Tryz.f13.ntmps Tryz.func13 rfl rfl rfl (by simp [Tryz.ntmps13]) fun W I => ?_
 repeat' (first
  | refine ca Hv (hT) ?_
  | refine ca Ci (hE) ?_
  | refine cag hU (hV) ?_
  | exact True.intro | refine Ps ?_ | refine two ?_ ?_ | refine AF fun c_ => ?_
  | (refine imp fun hc => ?_) <;> try exact cx hc
  | refine all fun v_ => ?_)
 rename_i b0 bt vd bv
 obtain ⟨bg, rfl⟩ : ∃ x, x = v_ := ⟨v_, rfl⟩
 obtain ⟨vs, vl⟩ := vd
 dsimp only
 refine ⟨?_⟩
 refine GW (X := Nat) (fun z => [(7, .val (.pointer (some ⟨bt, 0, none⟩))), (8, .val (.pointer (some ⟨bv, 0, none⟩))), (9, .int 0), (10, .val (.pointer (some ⟨bg, 0, none⟩))), (11, .int 0), (12, .val (.pointer (some ⟨z, 0, none⟩))), (13, .bool true)]) (fun z => [.cells z 33 [.bool true, .int x.n, .int x.n, .int x.s, .int x.a, .bool true, .bool fv], .cells bg 51 [.d (AO e.spots), .int (nkF t 0), .d (Ah e.next), .d (AK e.sets), .int am], .cells bv 68 [.bool fv, .d (AK vs), .d (AK vl)], .cells bt 29 [.d (BT t.model.vars), .d (A2 t.model.rules), .d (BU t.props), .d (AO t.formula)]]) ?_ ?_
 · skip
   refine Cm [] mixed rfl (by (repeat (with_reducible apply AU)); exact len_nil) (by decide +kernel) (by exact AW) ?_
   repeat' (first
    | refine cae GO (hMa) ?_
    | ((refine C3 (VS.of_le (Env.le_cons (t := 32) (x := .agg [.int 1, .int 1000]) (AV.le_agg ⟨fun _ _ _ h => h, fun _ _ _ h => h, trivial⟩) (Env.le_cons (t := 31) (x := .agg [.int 4, .int 0]) (AV.le_agg ⟨fun _ _ _ h => h, fun _ _ _ h => h, trivial⟩) (Env.le_refl _)))) ?_); (with_reducible apply Rg); (iterate 3 focus rfl); (focus (with_reducible exact ElC.h)); (focus rfl); (focus rfl))
    | ((with_reducible apply (fI (f := Fo.cells) (ys := [⟨4, 0⟩, ⟨1, 1000⟩]))); (focus rfl); (focus rfl); (focus (with_reducible exact ElC.h)); (focus exact BS); (iterate 4 focus rfl); (focus (simp only [List.length_cons, List.length_nil]; omega)); (focus (simp only [List.length_cons, List.length_nil]; omega)))
    | ((refine C3 (By (t := 34) (eb := 16) rfl rfl (fun x => rfl) (by omega)) ?_); (refine ca Bo hSa ?_))
    | ((refine C3 (D1 (h1 := [_]) (h' := [_]) 16 rfl rfl (fun _ => rfl) (by omega) (CvE.cons (t := 34) rfl .here (CvE.refl _ _ _)) (CvH.refl _)) ?_); (refine ca Bo hSa ?_))
    | exact True.intro | refine AG ?_ | refine two ?_ ?_ | refine AF fun c_ => ?_
    | (refine imp fun hc => ?_) <;> try exact cx1 hc
    | refine all fun v_ => ?_)
   all_goals
    refine ⟨_, VS.take (by exact AD) ?_⟩
    exact leD
 intro bo
 clear hSa hT hE hV hMa oka
 repeat' (first
  | exact True.intro
  | refine stp ?_
  | refine two ?_ ?_
  | (refine imp fun hc => ?_) <;> try exact cx hc
  | refine all fun v_ => ?_)
 all_goals
  refine AN (VS.drop (List.nil_sublist _)) ?_
  ((with_reducible apply rq1); rfl; rfl)
  trace_state
  exact AB (by simp_all)
end Go.Proofs.YtnlfhnbcdfdhgaaGreatDoor
