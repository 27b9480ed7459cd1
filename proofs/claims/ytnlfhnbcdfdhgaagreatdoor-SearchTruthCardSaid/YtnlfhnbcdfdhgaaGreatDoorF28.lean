/- A bundle of this claim's own texts: P4 U5 U7 P5 P6. -/
import Derived.Test.YtnlfhnbcdfdhgaaGreatDoorF16
import Derived.Test.YtnlfhnbcdfdhgaaGreatDoorF18
import Derived.Test.YtnlfhnbcdfdhgaaGreatDoorF19
import Derived.Test.YtnlfhnbcdfdhgaaGreatDoorF20
import Derived.Test.YtnlfhnbcdfdhgaaGreatDoorF21
import Derived.Test.YtnlfhnbcdfdhgaaGreatDoorF23
import Derived.Test.YtnlfhnbcdfdhgaaGreatDoorF27
set_option linter.unusedVariables false
set_option linter.unusedSimpArgs false
set_option maxRecDepth 100000
set_option maxHeartbeats 4000000
namespace Go.Proofs.YtnlfhnbcdfdhgaaGreatDoor
open Go Go.Av Go.Sp
theorem NN : Cal Tryz.prog 54 := Cal.of Tryz.func54 (by kernel_rfl) (by kernel_rfl)
noncomputable abbrev srF (t : Tk) (x : Ms) : Sr := ⟨x.up, x.n, x.m, ⟨dtF t x.n, byF t x.s⟩, ⟨false, 0, 0, 0, x.a, false, false⟩⟩
noncomputable abbrev skM (bs : Nat) (t : Tk) (x : Ms) (v : Sl × Sto) : H := skH bs t (spF t x.n) (srF t x) v
theorem Vy (bs : Nat) (t : Tk) (x : Ms) (v : Sl × Sto) (h : x.n = (spF t x.n).length) :
 AC Tryz.prog GP 54 [.val (.pointer (some ⟨bs, 0, none⟩))] (skM bs t x v) fun e h => ∃ _ : Unit, e = .ret (.bool false) ∧ h = skM bs t x v := by
 obtain ⟨q, s⟩ := v
 refine AJ (ts := [2]) Tryz.f54.ntmps Tryz.func54 rfl rfl rfl (by simp [Tryz.ntmps54]) fun W I => ?_
 unfold skM srF skH skC skD
 generalize spF t x.n = L at h ⊢
 dsimp only
 all_goals haveI fH_ : J7 := ⟨⟩
 repeat' (first
  | exact True.intro
  | refine stp ?_
  | refine two ?_ ?_
  | refine AF fun c_ => ?_
  | (refine imp fun hc => ?_) <;> try exact cx1 hc
  | refine all fun v_ => ?_)
 all_goals clear fH_
 refine A6 ?_
 ((with_reducible apply rq1); rfl; rfl)
 exact ⟨(), rfl, rfl⟩
theorem ZT (bs : Nat) (t : Tk) (e : Exp) (g : Grown t e) (x : Ms) (hI : MsI t e x) (ha : x.a ≤ 1000000000) (v : Fi (spF t x.n)) (hk : x.n < nkF t x.n) :
 AC Tryz.prog GP 54 [.val (.pointer (some ⟨bs, 0, none⟩))] (skM bs t x v.1) fun r h => ∃ w : Fi (spF t (wkF t 1 x).n), r = .ret (.bool (decide (Gu t x))) ∧ h = skM bs t (wkF t 1 x) w.1 := by
 obtain ⟨⟨q, s⟩, hm⟩ := v
 have hN := hI.lt g hk
 have hat : (spF t x.n)[x.n]? = some e.spots[x.n] := g.at hN
 have hnw := g.nw hN
 have hnk := g.newK hN
 have hsm := Fq g.task x.n
 have hsm2 := Fq g.task (x.n + 1)
 have hnd2 := Dv t (x.n + 1)
 have hfew2 := g.nk (i := x.n + 1) hN
 have hf := g.few
 have hbl := J3 g.task e.spots[x.n].kind e.spots[x.n].val
 have hgr := g.goodRc hN
 have hlt : x.n < (spF t x.n).length := hk
 have hget : (spF t x.n)[x.n] = e.spots[x.n] := by rw [List.getElem?_eq_getElem hlt] at hat; exact Option.some.inj hat
 have hBh := ZQ t ((spF t x.n)[x.n]'hlt).kind ((spF t x.n)[x.n]'hlt).val
 have eB : Ad t ((spF t x.n)[x.n]'hlt).kind ((spF t x.n)[x.n]'hlt).val = Ad t e.spots[x.n].kind e.spots[x.n].val := by rw [hget]
 rw [eB] at hBh
 clear hget eB hat
 generalize Ad t e.spots[x.n].kind e.spots[x.n].val = bp at hBh hbl hnw hnk
 obtain ⟨B, be⟩ := bp
 dsimp only at hBh hbl hnw hnk
 unfold nkF at hfew2
 dsimp only at hm ⊢
 have hne : ¬ (x.n : Int) = ((spF t x.n).length : Nat) := by omega
 unfold skM srF skH skC skD
 dsimp only
 refine AJ (ts := [2]) Tryz.f54.ntmps Tryz.func54 rfl rfl rfl (by simp [Tryz.ntmps54]) fun W I => ?_
 haveI fH_ : J7 := ⟨⟩
 haveI fS_ : IT 1 := ⟨⟩
 repeat' (first
  | exact True.intro
  | refine stp ?_
  | refine two ?_ ?_
  | refine AF fun c_ => ?_
  | (refine imp fun hc => ?_) <;> try exact cx1 hc
  | refine all fun v_ => ?_)
 clear fH_ fS_
 refine ⟨?_⟩
 refine GW (X := Unit) (fun _ => [(0, .val (.pointer (some ⟨bs, 0, none⟩))), (2, .bool false), (3, .d (AO B))]) (fun _ => [skC bs t q s (srF t x), AH q.v 106 2 Fo.cells (spF t x.n)]) ?_ ?_
 · refine Cm [] mixed rfl (by (repeat (with_reducible apply AU)); exact len_nil) (by decide +kernel) (by exact AW) ?_
   repeat' (first
    | refine ca MW (hBh) ?_
    | exact True.intro
    | ((with_reducible apply Kk); (focus rfl); (focus (decide +kernel)); (focus ((with_reducible apply Gk); (focus rfl); (focus (with_reducible exact ElC.h)); (focus rfl); (focus exact Ab); (focus exact fun _ => rfl); (focus omega))); (focus rfl))
    | refine hstp ?_
    | refine stp ?_
    | refine two ?_ ?_
    | refine AF fun c_ => ?_
    | (refine imp fun hc => ?_) <;> try exact cx1 hc
    | refine all fun v_ => ?_)
   all_goals
    refine ⟨(), VS.take (by exact AD) ?_⟩
    exact leD
 intro _
 repeat' (first
  | with_reducible apply L3
  | with_reducible apply Lr
  | with_reducible apply O8
  | with_reducible apply LU
  | ((with_reducible apply jp); (focus exact ER); (focus rfl))
  | with_reducible apply DH
  | refine all fun v_ => ?_)
 refine Zs (a := x.n) rfl rfl (by (with_reducible exact ElC.h)) rfl ?_
 repeat' (first
  | ((with_reducible apply (Ba (Value.int .i64))); (focus rfl))
  | ((with_reducible apply jp); (focus ((with_reducible apply (Ap (AS .i64))); rfl; rfl; rfl; rfl; (focus (with_reducible exact ElC.h)); (focus exact Ab))); (focus rfl))
  | ((with_reducible apply (A4 (AS .i64))); (focus rfl); (focus rfl); (focus rfl); (focus rfl); (focus rfl); (focus exact CI); (focus assumption))
  | exact True.intro | refine AG ?_ | refine two ?_ ?_ | refine AF fun c_ => ?_
  | (refine imp fun hc => ?_) <;> try exact cx1 hc
  | refine all fun v_ => ?_)
 obtain ⟨bm, rfl⟩ : ∃ x, x = v_ := ⟨v_, rfl⟩
 obtain ⟨p0, rfl⟩ : ∃ x, x = v_ := ⟨v_, rfl⟩
 have hsB : ∀ b ∈ B, CX b := fun b hb => hsm2 b (by rw [hnw, ← Jt, List.take_length]; exact (Ig _ _ _).2 (.inr hb))
 have hnwB : ∀ k, ∀ b ∈ nwF (spF t x.n) B k, CX b := fun k b hb => by
  have h1 : b ∈ (BM (spF t x.n) (B.take k)).1 := by rw [Jt]; exact List.mem_append_right _ hb
  rcases (Ig _ _ _).1 h1 with h | h
  · exact hsm b h
  · exact hsB b (List.mem_of_mem_take h)
 refine AM (X := Nat × Sl) (fun y => [(0, .val (.pointer (some ⟨bs, 0, none⟩))), (2, .bool false), (5, .val y.2.v), (6, .val (.map (some bm))), (52, .d (AO B)), (53, .int B.length), (54, .int y.1)]) (fun y => [AH y.2.v 3 1 Aa ((x.n : Int) :: (nwF (spF t x.n) B y.1).map CU), .raw bm (Q4 (Value.int .i64) ((nwF (spF t x.n) B y.1).map CU)), skC bs t q s (srF t x), AH q.v 106 2 Fo.cells (spF t x.n)]) (fun y => y.1 ≤ B.length) (fun y => B.length - y.1) (0, p0) (Nat.zero_le _) (VS.take (by dsimp only; rw [aN]; exact AD) ?_) ?_
 · exact leD
 rintro ⟨k, p⟩ hkl
 dsimp only at hkl ⊢
 have hnl := dJ (spF t x.n) B k
 have hrl : ((x.n : Int) :: (nwF (spF t x.n) B k).map CU).length = (nwF (spF t x.n) B k).length + 1 := by simp
 by_cases hkB : k < B.length
 · have hx := hsB _ (List.getElem_mem hkB)
   have hH := VM GP s (CU B[k])
   rw [hm.has hx hsm] at hH
   have hsu := aH (spF t x.n) B k hkB
   have hin : CU B[k] ∈ (nwF (spF t x.n) B k).map CU ↔ B[k] ∈ nwF (spF t x.n) B k := by
    rw [List.mem_map]
    exact ⟨fun ⟨b, hb, e⟩ => key_inj (hnwB k b hb) hx e ▸ hb, fun hb => ⟨_, hb, rfl⟩⟩
   by_cases h1 : B[k] ∈ spF t x.n
   · rw [decide_eq_true h1] at hH
     rw [if_pos (List.mem_append_left _ h1)] at hsu
     dsimp only at hH
     repeat' (first
      | refine ca Hr (keyOf GP B[k] hx) ?_
      | refine ca EF (hH) ?_
      | ((with_reducible apply (Ba (Value.int .i64))); (focus rfl))
      | ((with_reducible apply jp); (focus ((with_reducible apply (Ap (AS .i64))); rfl; rfl; rfl; rfl; (focus (with_reducible exact ElC.h)); (focus exact Ab))); (focus rfl))
      | ((with_reducible apply (A4 (AS .i64))); (focus rfl); (focus rfl); (focus rfl); (focus rfl); (focus rfl); (focus exact CI); (focus assumption))
      | exact True.intro | refine AG ?_ | refine two ?_ ?_ | refine AF fun c_ => ?_
      | (refine imp fun hc => ?_) <;> try exact cx1 hc
      | refine all fun v_ => ?_)
     refine ⟨(k + 1, p), hkB, by dsimp only; omega, VS.take (by dsimp only; rw [hsu]; exact AD) ?_⟩
     exact leD
   rw [decide_eq_false h1] at hH
   dsimp only at hH
   by_cases h2 : B[k] ∈ nwF (spF t x.n) B k
   · rw [if_pos (List.mem_append_right _ h2)] at hsu
     have h3 := hin.2 h2
     repeat' (first
      | refine ca Hr (keyOf GP B[k] hx) ?_
      | refine ca EF (hH) ?_
      | ((with_reducible apply (Ba (Value.int .i64))); (focus rfl))
      | ((with_reducible apply jp); (focus ((with_reducible apply (Ap (AS .i64))); rfl; rfl; rfl; rfl; (focus (with_reducible exact ElC.h)); (focus exact Ab))); (focus rfl))
      | ((with_reducible apply (A4 (AS .i64))); (focus rfl); (focus rfl); (focus rfl); (focus rfl); (focus rfl); (focus exact CI); (focus assumption))
      | exact True.intro | refine AG ?_ | refine two ?_ ?_ | refine AF fun c_ => ?_
      | (refine imp fun hc => ?_) <;> try exact cx1 hc
      | refine all fun v_ => ?_)
     refine ⟨(k + 1, p), hkB, by dsimp only; omega, VS.take (by dsimp only; rw [hsu]; exact AD) ?_⟩
     exact leD
   · rw [if_neg (fun k => (List.mem_append.1 k).elim h1 h2)] at hsu
     have h3 : CU B[k] ∉ (nwF (spF t x.n) B k).map CU := fun k => h2 (hin.1 k)
     have hsm' : (nwF (spF t x.n) B (k + 1)).map CU = (nwF (spF t x.n) B k).map CU ++ [CU B[k]] := by rw [hsu, List.map_append]; rfl
     repeat' (first
      | refine ca Hr (keyOf GP B[k] hx) ?_
      | refine ca EF (hH) ?_
      | ((with_reducible apply (Ba (Value.int .i64))); (focus rfl))
      | ((with_reducible apply jp); (focus ((with_reducible apply (Ap (AS .i64))); rfl; rfl; rfl; rfl; (focus (with_reducible exact ElC.h)); (focus exact Ab))); (focus rfl))
      | ((with_reducible apply (A4 (AS .i64))); (focus rfl); (focus rfl); (focus rfl); (focus rfl); (focus rfl); (focus exact CI); (focus assumption))
      | exact True.intro | refine AG ?_ | refine two ?_ ?_ | refine AF fun c_ => ?_
      | (refine imp fun hc => ?_) <;> try exact cx1 hc
      | refine all fun v_ => ?_)
     refine ⟨(k + 1, v_), hkB, by dsimp only; omega, VS.take (by dsimp only; rw [hsm']; exact AD) ?_⟩
     exact leD
 obtain rfl : k = B.length := by omega
 have hrec : ((x.n : Int) :: (nwF (spF t x.n) B B.length).map CU) = Fm t x.n := by unfold Fm; rw [hnk]
 have hkeep := hrl
 rw [hrec] at hrl ⊢
 have hW := eH GP ⟨dtF t x.n, byF t x.s⟩ (Fm t x.n)
 have hmt : EO ⟨dtF t x.n, byF t x.s⟩ := by
  have h1 := Cg t x.n
  have h2 := Dx t hI.s
  have h3 := hI.b
  unfold EO
  dsimp only
  omega
 have hdl := Cg t (x.n + 1)
 rw [MG, List.length_append, Cg] at hdl
 refine Ox (By (t := 5) (eb := 8) rfl rfl (fun x => rfl) (by omega)) ?_
 by_cases hgo : Gu t x
 · have hfit : ¬ 1048576 < (dtF t x.n).length + (Ao (Fm t x.n)).length := by
    rw [Cg]
    have := hgo.2
    omega
   rw [LM hmt (by have := hgr.1; omega) hgr.2 hfit] at hW
   dsimp only at hW
   rw [← MG] at hW
   rw [decide_eq_true hgo, KY hgo]
   rw [show wkF t 0 x.go = x.go from rfl]
   have hKK : (Fm t x.n).drop (Int.toNat 1) = (nwF (spF t x.n) B B.length).map CU := by unfold Fm; rw [hnk]; rfl
   repeat' (first
    | refine ca Nf (hW) ?_
    | exact True.intro | refine AG ?_ | refine two ?_ ?_ | refine AF fun c_ => ?_
    | (refine imp fun hc => ?_) <;> try exact cx1 hc
    | refine all fun v_ => ?_)
   clear hW hBh
   generalize (Fm t x.n).drop (Int.toNat 1) = K at hKK ⊢
   generalize nwF (spF t x.n) B B.length = NW at hKK hnw hrec hnk
   have hKl : K.length = NW.length := by rw [hKK, List.length_map]
   rw [hnw] at hsm2 hnd2 hfew2
   rw [List.length_append] at hfew2
   refine AM (X := Nat × Sl × Sto) (fun y => [(0, .val (.pointer (some ⟨bs, 0, none⟩))), (2, .bool false), (105, .d (AK K)), (106, .int K.length), (107, .int y.1)]) (fun y => skH bs t (spF t x.n ++ NW.take y.1) ⟨x.up, x.n, x.m, ⟨dtF t (x.n + 1), byF t x.s⟩, ⟨false, 0, 0, 0, x.a, false, false⟩⟩ y.2) (fun y => y.1 ≤ NW.length ∧ HN y.2.2 (spF t x.n ++ NW.take y.1)) (fun y => NW.length - y.1) (0, q, s) ⟨Nat.zero_le _, by dsimp only; rw [List.take_zero, List.append_nil]; exact hm⟩ (VS.take (by dsimp only; rw [List.take_zero, List.append_nil]; exact AD) ?_) ?_
   · exact leD
   rintro ⟨j, v⟩ ⟨hj, hmj⟩
   dsimp only at hj hmj ⊢
   by_cases hjl : j < NW.length
   · have et : spF t x.n ++ NW.take j ++ [NW[j]] = spF t x.n ++ NW.take (j + 1) := by rw [List.append_assoc, List.take_succ_eq_append_getElem hjl]
     have hjs := hsm2 NW[j] (List.mem_append_right _ (List.getElem_mem hjl))
     have hjK : j < K.length := by omega
     have F1 : ACr Tryz.prog GP 97 [.int (K[j]'hjK)] (.agg [.int NW[j].kind, .int NW[j].val]) := by
      have e : K[j]'hjK = CU NW[j] := by simp only [hKK, List.getElem_map]
      rw [e]; exact XU GP _ hjs
     have F := meet GP bs t ⟨x.up, x.n, x.m, ⟨dtF t (x.n + 1), byF t x.s⟩, ⟨false, 0, 0, 0, x.a, false, false⟩⟩ (spF t x.n ++ NW.take j) NW[j] ⟨v, hmj⟩ hjs (fun b hb => hsm2 b (by
      rcases List.mem_append.1 hb with hb | hb
      · exact List.mem_append_left _ hb
      · exact List.mem_append_right _ (List.mem_of_mem_take hb))) (Ng hnd2 hjl) (by rw [List.length_append, List.length_take]; omega)
     rw [et] at F
     repeat' (first
      | refine ca LR (F1) ?_
      | refine cag Kp (F) ?_
      | exact True.intro | refine AP ?_ | refine two ?_ ?_
      | (refine imp fun hc => ?_) <;> try exact cx hc
      | refine all fun v_ => ?_)
     obtain ⟨⟨w, hw⟩, rfl⟩ : ∃ x, x = v_ := ⟨v_, rfl⟩
     refine ⟨(j + 1, w), ⟨hjl, hw⟩, by dsimp only; omega, VS.take (by exact AD) ?_⟩
     exact leD
   obtain rfl : j = NW.length := by omega
   rw [List.take_length] at hmj ⊢
   have hmx : max (x.m : Int) ((x.n : Int) + 1) = ((max x.m (x.n + 1) : Nat) : Int) := by omega
   have hn1 : (x.n : Int) + 1 = ((x.n + 1 : Nat) : Int) := by omega
   have ha1 : (x.a : Int) + 1 = ((x.a + 1 : Nat) : Int) := by omega
   unfold skH skC skD
   dsimp only
   by_cases hxm : x.n < x.m
   · have eg : x.go = ⟨x.up, x.n + 1, x.s, max x.m (x.n + 1), x.a + 1⟩ := by unfold Ms.go; rw [if_pos hxm]
     rw [eg]
     dsimp only
     rw [hnw]
     repeat' (first
      | exact True.intro | refine AG ?_ | refine two ?_ ?_ | refine AF fun c_ => ?_
      | (refine imp fun hc => ?_) <;> try exact cx1 hc
      | refine all fun v_ => ?_)
     rw [hmx, hn1]
     rw [ha1];
     refine AN (VS.take (hc := skH bs t (spF t x.n ++ NW) ⟨x.up, ((x.n + 1 : Nat) : Int), ((max x.m (x.n + 1) : Nat) : Int), ⟨dtF t (x.n + 1), byF t x.s⟩, ⟨false, 0, 0, 0, ((x.a + 1 : Nat) : Int), false, false⟩⟩ v) (by exact AD) (Env.le_refl _)) ?_
     ((with_reducible apply rq1); rfl; rfl)
     exact ⟨⟨v, hmj⟩, rfl, rfl⟩
   · have eg : x.go = ⟨x.up, x.n + 1, x.s, max x.m (x.n + 1), x.a⟩ := by unfold Ms.go; rw [if_neg hxm]
     rw [eg]
     dsimp only
     rw [hnw]
     repeat' (first
      | exact True.intro | refine AG ?_ | refine two ?_ ?_ | refine AF fun c_ => ?_
      | (refine imp fun hc => ?_) <;> try exact cx1 hc
      | refine all fun v_ => ?_)
     rw [hmx, hn1]

     refine AN (VS.take (hc := skH bs t (spF t x.n ++ NW) ⟨x.up, ((x.n + 1 : Nat) : Int), ((max x.m (x.n + 1) : Nat) : Int), ⟨dtF t (x.n + 1), byF t x.s⟩, ⟨false, 0, 0, 0, (x.a : Int), false, false⟩⟩ v) (by exact AD) (Env.le_refl _)) ?_
     ((with_reducible apply rq1); rfl; rfl)
     exact ⟨⟨v, hmj⟩, rfl, rfl⟩
 · have hfull : 1048576 < (dtF t x.n).length + (Ao (Fm t x.n)).length := by
    rw [Cg]
    rcases Nat.lt_or_ge 1048576 (byF t (x.n + 1)) with h | h
    · omega
    · exact absurd ⟨hk, h⟩ hgo
   rw [LV hmt (by have := hgr.1; omega) hgr.2 hfull] at hW
   rw [decide_eq_false hgo, Ib hgo]
   repeat' (first
    | refine ca Nf (hW) ?_
    | exact True.intro | refine AG ?_ | refine two ?_ ?_ | refine AF fun c_ => ?_
    | (refine imp fun hc => ?_) <;> try exact cx1 hc
    | refine all fun v_ => ?_)
   refine AN (VS.take (hc := skM bs t x (q, s)) (by exact AD) (Env.le_refl _)) ?_
   ((with_reducible apply rq1); rfl; rfl)
   exact ⟨⟨(q, s), hm⟩, rfl, rfl⟩


theorem Sb : Cal Tryz.prog 96 := Cal.of Tryz.func96 (by kernel_rfl) (by kernel_rfl)
theorem Y5 (G : List (Nat × List D)) (l : List UInt8) (hl : l.length ≤ 140737488355328) : ACr Tryz.prog G 145 [.d (B0 l)] (.d (B0 l)) := AC.frz 1 (Zf G l hl) rfl (fun _ => rfl) (by omega)
theorem QI {p q : Prop} (hp : p) (h : p → q := by
 apply cmp; (focus (first
  | ((with_reducible apply Dg); (focus rfl); (focus exact Hm); (focus exact Y5 _ _ (by rw [List.length_take]; omega)); (focus rfl))
  | ((with_reducible apply Bc); (focus rfl); (focus (decide +kernel)); (focus rfl); (focus exact Hm); (focus exact Y5 _ _ (by rw [List.length_take]; omega)); (focus rfl))
  | ((with_reducible apply Dg); (focus rfl); (focus exact cal_Octets); (focus exact Octets _ _ _ (by omega)); (focus rfl))
  | ((with_reducible apply Bc); (focus rfl); (focus (decide +kernel)); (focus rfl); (focus exact cal_Octets); (focus exact Octets _ _ _ (by omega)); (focus rfl))
  ))
 exact fun h => h) : q := h hp
theorem cV (G : List (Nat × List D)) (t : Tp) : ACr Tryz.prog G 96 [tpA t] (.tup [tpA (Fy t).1, .int (Fy t).2]) := by
 refine Bm (rs := [.cell 2 80, .tmp 3]) Tryz.f96.ntmps Tryz.func96 rfl rfl rfl (by simp [Tryz.ntmps96]) fun W I => ?_
 have R := Read G t
 by_cases hm : EO t
 · have e : GZ t = (((Cz t.data).1, ((Cz t.data).2 : Int)), 0) := if_pos hm
   rw [e] at R
   dsimp only at R
   have hle := XF t.data
   have hlen := hm.1
   repeat' (first
    | refine ca JA (R) ?_
    | refine ca cal_RecordsOf (R) ?_
    | refine QI ?_
    | exact True.intro | refine AP ?_ | refine two ?_ ?_
    | (refine imp fun hc => ?_) <;> try exact cx hc
    | refine all fun v_ => ?_)
   exact NO (xs := [tpA ⟨t.data.take (Cz t.data).2, min t.synced (Cz t.data).2⟩, .int 0]) ⟨Ax rfl CT rfl (by exact Ab) rfl, Az rfl, trivial⟩ rfl (h' := []) (List.nil_sublist _) (AB (by rw [Fy, if_pos hm]; rfl))
 · have e : GZ t = (([], 0), 9) := if_neg hm
   rw [e] at R
   dsimp only at R
   repeat' (first
    | refine ca JA (R) ?_
    | refine ca cal_RecordsOf (R) ?_
    | refine QI ?_
    | exact True.intro | refine AP ?_ | refine two ?_ ?_
    | (refine imp fun hc => ?_) <;> try exact cx hc
    | refine all fun v_ => ?_)
   exact Eo (xs := [.agg [.val (.slice none 0 0), .int 0], .int 9]) (ys := [tpA DD, .int 9]) vid ⟨Ax rfl CT rfl (by exact Ab) rfl, Az rfl, trivial⟩ ⟨AV.le_agg ⟨AV.le_nil 1 1, AV.le_refl _, trivial⟩, AV.le_refl _, trivial⟩ rfl (h' := []) (List.nil_sublist _) (AB (by rw [Fy, if_neg hm]; rfl))
end Go.Proofs.YtnlfhnbcdfdhgaaGreatDoor
namespace Go.Sp
open Go Go.Av
section
variable {t : Tk} {e : Exp}
theorem Grown.recs (g : Grown t e) {n : Nat} (h : n ≤ e.spots.length) : ∀ i, i < n → Go.Sp.goodRc (Fm t i) := fun i hi => g.goodRc (by omega)
theorem HU {n p σ : Nat} (hb : byF t n ≤ 1048576) (hp : p ≤ byF t n) (hs : σ ≤ p) : EO ⟨(dtF t n).take p, (σ : Int)⟩ := by
 have h1 := Cg t n
 have h2 : ((dtF t n).take p).length = p := by rw [List.length_take]; omega
 unfold EO
 dsimp only
 omega
theorem Grown.repair (g : Grown t e) {n p σ : Nat} (hn : n ≤ e.spots.length) (hb : byF t n ≤ 1048576) (hp : p ≤ byF t n) (hs : σ ≤ p) : Fy ⟨(dtF t n).take p, (σ : Int)⟩ = (⟨dtF t (kpF t p n), ((min σ (byF t (kpF t p n)) : Nat) : Int)⟩, 0) := by
 unfold Fy
 rw [if_pos (HU hb hp hs)]
 dsimp only
 rw [UB (g.recs hn) p]
 dsimp only
 have h1 := Pz t p n
 rw [List.take_take, Nat.min_eq_left h1, E0 t (HR t p n)]
 rw [show ((min σ (byF t (kpF t p n)) : Nat) : Int) = min (σ : Int) (byF t (kpF t p n)) by omega]
theorem UC (t : Tk) (n : Nat) : kpF t (byF t n) n = n := UF t (Nat.le_refl _) (Nat.le_refl _) (.inl rfl)
theorem Grown.read (g : Grown t e) {n σ : Nat} (hn : n ≤ e.spots.length) (hb : byF t n ≤ 1048576) (hs : σ ≤ byF t n) : GZ ⟨dtF t n, (σ : Int)⟩ = ((Bz t n, (byF t n : Int)), 0) := by
 have hm := HU (t := t) hb (Nat.le_refl _) hs
 have e1 := E0 t (Nat.le_refl n)
 rw [e1] at hm
 have hr := UB (g.recs hn) (byF t n)
 rw [e1, UC] at hr
 unfold GZ
 rw [if_pos hm]
 dsimp only
 rw [hr]
theorem Grown.safe (g : Grown t e) {n s : Nat} (hn : n ≤ e.spots.length) (hb : byF t n ≤ 1048576) (hs : s ≤ n) : EX ⟨dtF t n, (byF t s : Int)⟩ 0 = (⟨dtF t s, (byF t s : Int)⟩, 0) := by
 have hm := HU (t := t) hb (Nat.le_refl _) (Dx t hs)
 rw [E0 t (Nat.le_refl n)] at hm
 have h1 := Cg t n
 have h2 := Dx t hs
 unfold EX
 rw [if_neg (fun k => k hm), if_neg (by decide)]
 dsimp only
 rw [show (byF t s : Int) + min 0 (((dtF t n).length : Int) - byF t s) = (byF t s : Int) by omega, Int.toNat_natCast, E0 t hs]
theorem Grown.crash (g : Grown t e) {n s : Nat} (hn : n ≤ e.spots.length) (hb : byF t n ≤ 1048576) (hs : s ≤ n) {k : Int} (hk : 0 ≤ k) : EX ⟨dtF t n, (byF t s : Int)⟩ k = (⟨(dtF t n).take (min (byF t s + k.toNat) (byF t n)), ((min (byF t s + k.toNat) (byF t n) : Nat) : Int)⟩, 0) := by
 have hm := HU (t := t) hb (Nat.le_refl _) (Dx t hs)
 rw [E0 t (Nat.le_refl n)] at hm
 have h1 := Cg t n
 have h2 := Dx t hs
 unfold EX
 rw [if_neg (fun k => k hm), if_neg (by omega)]
 dsimp only
 rw [show (byF t s : Int) + min k (((dtF t n).length : Int) - byF t s) = ((min (byF t s + k.toNat) (byF t n) : Nat) : Int) by omega, Int.toNat_natCast]
end
theorem Zr (t : Tk) (i : Nat) : spF t (i + 1) = spF t i ++ (spF t (i + 1)).drop (nkF t i) := by
 obtain ⟨r, hr⟩ := Km t i 1
 unfold nkF
 rw [hr, List.drop_left]
end Go.Sp
namespace Go.Proofs.YtnlfhnbcdfdhgaaGreatDoor
open Go Go.Av Go.Sp
theorem VF : Cal Tryz.prog 31 := Cal.of Tryz.func31 (by kernel_rfl) (by kernel_rfl)
theorem Iz : Cal Tryz.prog 53 := Cal.of Tryz.func53 (by kernel_rfl) (by kernel_rfl)
theorem RB (bs : Nat) (t : Tk) (e : Exp) (g : Grown t e) (n p σ : Nat) (hn : n ≤ e.spots.length) (hb : byF t n ≤ 1048576) (hp : p ≤ byF t n) (hs : σ ≤ p) (up : Bool) (th mo : Int) (o : Ou) (l0 : List Fo) (v : Sl × Sto) :
 AC Tryz.prog GP 53 [.val (.pointer (some ⟨bs, 0, none⟩))] (skH bs t l0 ⟨up, th, mo, ⟨(dtF t n).take p, σ⟩, o⟩ v) fun r h => ∃ w : Fi (spF t (kpF t p n)), r = .ret (.tup []) ∧ h = skH bs t (spF t (kpF t p n)) ⟨up, (kpF t p n : Nat), mo, ⟨dtF t (kpF t p n), ((min σ (byF t (kpF t p n)) : Nat) : Int)⟩, o⟩ w.1 := by
 have hRp := cV GP ⟨(dtF t n).take p, σ⟩
 rw [g.repair hn hb hp hs] at hRp
 have hk := HR t p n
 have hkb := Dx t hk
 have hRd := Read GP ⟨dtF t (kpF t p n), ((min σ (byF t (kpF t p n)) : Nat) : Int)⟩
 rw [g.read (n := kpF t p n) (by omega) (by omega) (Nat.min_le_right _ _)] at hRd
 dsimp only at hRp hRd
 have hBg := fun (r : Sr) (l0 : List Fo) (q : Sl) (a b : AV) => WU bs t r l0 q a b g.task
 have hN := g.few
 generalize kpF t p n = k at hRp hRd hk hkb ⊢
 have hrl := Hf t k
 unfold skH skC skD
 dsimp only
 refine Dl (ts := []) Tryz.f53.ntmps Tryz.func53 rfl rfl rfl (by simp [Tryz.ntmps53]) fun W I => ?_
 repeat' (first
  | refine ca Sb (hRp) ?_
  | refine ca JA (hRd) ?_
  | refine cag MZ (hBg ⟨up, th, mo, ⟨dtF t k, ((min σ (byF t k) : Nat) : Int)⟩, o⟩ l0 v.1 (.d (AK v.2.loose)) (.d (Ah v.2.runs))) ?_
  | exact True.intro | refine AP ?_ | refine two ?_ ?_
  | (refine imp fun hc => ?_) <;> try exact cx hc
  | refine all fun v_ => ?_)
 obtain ⟨⟨w0, hw0⟩, rfl⟩ : ∃ x, x = v_ := ⟨v_, rfl⟩
 clear hRp hRd hBg
 dsimp only
 refine AM (X := Nat × Sl × Sto) (fun y => [(0, .val (.pointer (some ⟨bs, 0, none⟩))), (31, .d (Ah (Bz t k))), (32, .int (Bz t k).length), (33, .int y.1)]) (fun y => skH bs t (spF t y.1) ⟨up, (y.1 : Nat), mo, ⟨dtF t k, ((min σ (byF t k) : Nat) : Int)⟩, o⟩ y.2) (fun y => y.1 ≤ k ∧ HN y.2.2 (spF t y.1)) (fun y => k - y.1) (0, w0) ⟨Nat.zero_le _, hw0⟩ (VS.take (by dsimp only; exact AD) ?_) ?_
 · exact leD
 rintro ⟨i, v⟩ ⟨hi, hmi⟩
 dsimp only at hi hmi ⊢
 by_cases hik : i < k
 · have hiR : i < (Bz t k).length := by omega
   have eR : (Bz t k)[i]'hiR = Fm t i := by
    have h1 : (Bz t k)[i]? = some (Fm t i) := by unfold Bz; simp [hik]
    exact Option.some.inj ((List.getElem?_eq_getElem hiR).symm.trans h1)
   have hKK : ((Bz t k)[i]'hiR).drop (Int.toNat 1) = ((spF t (i + 1)).drop (nkF t i)).map CU := by rw [eR]; rfl
   have hR1 : 1 ≤ ((Bz t k)[i]'hiR).length := by rw [eR, LW]; omega
   have hnw := Zr t i
   have hsm2 := Fq g.task (i + 1)
   have hnd2 := Dv t (i + 1)
   have hfew2 := g.nk (i := i + 1) (by omega)
   unfold nkF at hfew2
   repeat' (first
    | exact True.intro | refine AP ?_ | refine two ?_ ?_
    | (refine imp fun hc => ?_) <;> try exact cx hc
    | refine all fun v_ => ?_)
   generalize ((Bz t k)[i]'hiR).drop (Int.toNat 1) = K at hKK ⊢
   generalize (spF t (i + 1)).drop (nkF t i) = NW at hKK hnw
   have hKl : K.length = NW.length := by rw [hKK, List.length_map]
   rw [hnw] at hsm2 hnd2 hfew2
   rw [List.length_append] at hfew2
   refine AM (X := Nat × Sl × Sto) (fun y => [(0, .val (.pointer (some ⟨bs, 0, none⟩))), (31, .d (Ah (Bz t k))), (32, .int (Bz t k).length), (33, .int i), (38, .d (AK K)), (39, .int K.length), (40, .int y.1)]) (fun y => skH bs t (spF t i ++ NW.take y.1) ⟨up, (i : Nat), mo, ⟨dtF t k, ((min σ (byF t k) : Nat) : Int)⟩, o⟩ y.2) (fun y => y.1 ≤ NW.length ∧ HN y.2.2 (spF t i ++ NW.take y.1)) (fun y => NW.length - y.1) (0, v) ⟨Nat.zero_le _, by dsimp only; rw [List.take_zero, List.append_nil]; exact hmi⟩ (VS.take (by dsimp only; rw [List.take_zero, List.append_nil]; exact AD) ?_) ?_
   · exact leD
   clear hmi v
   rintro ⟨j, v⟩ ⟨hj, hmj⟩
   dsimp only at hj hmj ⊢
   by_cases hjl : j < NW.length
   · have et : spF t i ++ NW.take j ++ [NW[j]] = spF t i ++ NW.take (j + 1) := by rw [List.append_assoc, List.take_succ_eq_append_getElem hjl]
     have hjs := hsm2 NW[j] (List.mem_append_right _ (List.getElem_mem hjl))
     have hjK : j < K.length := by omega
     have F1 : ACr Tryz.prog GP 97 [.int (K[j]'hjK)] (.agg [.int NW[j].kind, .int NW[j].val]) := by
      have e : K[j]'hjK = CU NW[j] := by simp only [hKK, List.getElem_map]
      rw [e]; exact XU GP _ hjs
     have F := meet GP bs t ⟨up, (i : Nat), mo, ⟨dtF t k, ((min σ (byF t k) : Nat) : Int)⟩, o⟩ (spF t i ++ NW.take j) NW[j] ⟨v, hmj⟩ hjs (fun b hb => hsm2 b (by
      rcases List.mem_append.1 hb with hb | hb
      · exact List.mem_append_left _ hb
      · exact List.mem_append_right _ (List.mem_of_mem_take hb))) (Ng hnd2 hjl) (by rw [List.length_append, List.length_take]; omega)
     rw [et] at F
     repeat' (first
      | refine ca LR (F1) ?_
      | refine cag Kp (F) ?_
      | exact True.intro | refine AP ?_ | refine two ?_ ?_
      | (refine imp fun hc => ?_) <;> try exact cx hc
      | refine all fun v_ => ?_)
     obtain ⟨⟨w, hw⟩, rfl⟩ : ∃ x, x = v_ := ⟨v_, rfl⟩
     refine ⟨(j + 1, w), ⟨hjl, hw⟩, by dsimp only; omega, VS.take (by exact AD) ?_⟩
     exact leD
   obtain rfl : j = NW.length := by omega
   rw [List.take_length] at hmj ⊢
   have hi1 : (i : Int) + 1 = ((i + 1 : Nat) : Int) := by omega
   unfold skH skC skD
   dsimp only
   repeat' (first
    | exact True.intro | refine AP ?_ | refine two ?_ ?_
    | (refine imp fun hc => ?_) <;> try exact cx hc
    | refine all fun v_ => ?_)
   refine ⟨(i + 1, v), ⟨hik, by dsimp only; rw [hnw]; exact hmj⟩, by dsimp only; omega, VS.take (by dsimp only; rw [hi1, hnw]; exact AD) ?_⟩
   exact leD
 obtain rfl : i = k := by omega
 repeat' (first
  | exact True.intro | refine AP ?_ | refine two ?_ ?_
  | (refine imp fun hc => ?_) <;> try exact cx hc
  | refine all fun v_ => ?_)
 exact rq0 rfl ⟨⟨v, hmi⟩, rfl, rfl⟩
theorem Zq : Cal Tryz.prog 30 := Cal.of Tryz.func30 (by kernel_rfl) (by kernel_rfl)
theorem eZ (bs : Nat) (t : Tk) (e : Exp) (g : Grown t e) (x : Ms) (hI : MsI t e x) (ha : x.a ≤ 1000000000) (v : Fi (spF t x.n)) :
 AC Tryz.prog GP 54 [.val (.pointer (some ⟨bs, 0, none⟩))] (skM bs t x v.1) fun r h => ∃ w : Fi (spF t (wkF t 1 x).n), r = .ret (.bool (decide (Gu t x))) ∧ h = skM bs t (wkF t 1 x) w.1 := by
 by_cases hk : x.n < nkF t x.n
 · exact ZT bs t e g x hI ha v hk
 · have hno : ¬ Gu t x := fun k => hk k.1
   have h1 : x.n = (spF t x.n).length := by
    rcases Nat.lt_or_ge x.n e.spots.length with c | c
    · exact absurd (g.nk_at c) hk
    · have h2 := hI.nN
      have e1 : x.n = e.spots.length := by omega
      have := g.nk_end
      unfold nkF at this
      rw [e1]; exact this.symm
   rw [Ib hno, decide_eq_false hno]
   exact (Vy bs t x v.1 h1).mono fun r h k => by
    obtain ⟨_, k1, k2⟩ := k
    exact ⟨v, k1, k2⟩
theorem Ui (bs : Nat) (t : Tk) (e : Exp) (g : Grown t e) (x : Ms) (hI : MsI t e x) (k : Int) (v : Fi (spF t x.n)) : AC Tryz.prog GP 30 [.val (.pointer (some ⟨bs, 0, none⟩)), .agg [.int 4, .int k]] (skM bs t x v.1) fun r h => ∃ w : Fi (spF t (mvF t x ⟨4, k⟩).n), r = .ret (.tup []) ∧ h = skM bs t (mvF t x ⟨4, k⟩) w.1 := by
 rw [HG]
 dsimp only
 by_cases hu : x.up = true
 · unfold skM srF skH skC skD
   dsimp only
   rw [hu]
   refine AJ (ts := []) Tryz.f30.ntmps Tryz.func30 rfl rfl rfl (by simp [Tryz.ntmps30]) fun W I => ?_
   repeat' (first
    | exact True.intro | refine AP ?_ | refine two ?_ ?_
    | (refine imp fun hc => ?_) <;> try exact cx hc
    | refine all fun v_ => ?_)
   refine AN (VS.take (hc := skH bs t (spF t x.n) ⟨true, x.n, x.m, ⟨dtF t x.n, byF t x.s⟩, ⟨false, 0, 0, 0, x.a, false, false⟩⟩ v.1) (by exact AD) (Env.le_refl _)) ?_
   exact rq0 rfl ⟨v, rfl, rfl⟩
 · have hu' : x.up = false := by simpa using hu
   have F := RB bs t e g x.n (byF t x.n) (byF t x.s) hI.nN hI.b (Nat.le_refl _) (Dx t hI.s) true x.n x.m ⟨false, 0, 0, 0, x.a, false, false⟩ (spF t x.n) v.1
   rw [E0 t (Nat.le_refl _), UC, Nat.min_eq_left (Dx t hI.s)] at F
   unfold skM srF skH skC skD
   dsimp only
   rw [hu']
   refine AJ (ts := []) Tryz.f30.ntmps Tryz.func30 rfl rfl rfl (by simp [Tryz.ntmps30]) fun W I => ?_
   repeat' (first
    | refine cag Iz (F) ?_
    | exact True.intro | refine AP ?_ | refine two ?_ ?_
    | (refine imp fun hc => ?_) <;> try exact cx hc
    | refine all fun v_ => ?_)
   obtain ⟨w, rfl⟩ : ∃ x, x = v_ := ⟨v_, rfl⟩
   refine AN (VS.take (hc := skH bs t (spF t x.n) ⟨true, x.n, x.m, ⟨dtF t x.n, byF t x.s⟩, ⟨false, 0, 0, 0, x.a, false, false⟩⟩ w.1) (by exact AD) (Env.le_refl _)) ?_
   exact rq0 rfl ⟨w, rfl, rfl⟩
theorem Ws (bs : Nat) (t : Tk) (x : Ms) (hu : x.up = false) (m k : Int) (hm : m ≠ 4) (v : Fi (spF t x.n)) : AC Tryz.prog GP 30 [.val (.pointer (some ⟨bs, 0, none⟩)), .agg [.int m, .int k]] (skM bs t x v.1) fun r h => ∃ w : Fi (spF t (mvF t x ⟨m, k⟩).n), r = .ret (.tup []) ∧ h = skM bs t (mvF t x ⟨m, k⟩) w.1 := by
 rw [Ip hu hm]
 unfold skM srF skH skC skD
 dsimp only
 rw [hu]
 refine AJ (ts := []) Tryz.f30.ntmps Tryz.func30 rfl rfl rfl (by simp [Tryz.ntmps30]) fun W I => ?_
 repeat' (first
  | exact True.intro | refine AP ?_ | refine two ?_ ?_
  | (refine imp fun hc => ?_) <;> try exact cx hc
  | refine all fun v_ => ?_)
 refine AN (VS.take (hc := skH bs t (spF t x.n) ⟨false, x.n, x.m, ⟨dtF t x.n, byF t x.s⟩, ⟨false, 0, 0, 0, x.a, false, false⟩⟩ v.1) (by exact AD) (Env.le_refl _)) ?_
 exact rq0 rfl ⟨v, rfl, rfl⟩
theorem Yn (bs : Nat) (t : Tk) (e : Exp) (g : Grown t e) (x : Ms) (hI : MsI t e x) (hu : x.up = true) (k : Int) (v : Fi (spF t x.n)) : AC Tryz.prog GP 30 [.val (.pointer (some ⟨bs, 0, none⟩)), .agg [.int 2, .int k]] (skM bs t x v.1) fun r h => ∃ w : Fi (spF t (mvF t x ⟨2, k⟩).n), r = .ret (.tup []) ∧ h = skM bs t (mvF t x ⟨2, k⟩) w.1 := by
 rw [Ih hu]
 have hS := Sync GP ⟨dtF t x.n, byF t x.s⟩
 have hm := HU (t := t) hI.b (Nat.le_refl _) (Dx t hI.s)
 rw [E0 t (Nat.le_refl _)] at hm
 unfold L7 at hS
 rw [if_pos hm] at hS
 dsimp only at hS
 rw [Cg] at hS
 unfold skM srF skH skC skD
 dsimp only
 rw [hu]
 refine AJ (ts := []) Tryz.f30.ntmps Tryz.func30 rfl rfl rfl (by simp [Tryz.ntmps30]) fun W I => ?_
 repeat' (first
  | refine ca Yq (hS) ?_
  | exact True.intro | refine AP ?_ | refine two ?_ ?_
  | (refine imp fun hc => ?_) <;> try exact cx hc
  | refine all fun v_ => ?_)
 refine AN (VS.take (hc := skH bs t (spF t x.n) ⟨true, x.n, x.m, ⟨dtF t x.n, byF t x.n⟩, ⟨false, 0, 0, 0, x.a, false, false⟩⟩ v.1) (by exact AD) (Env.le_refl _)) ?_
 exact rq0 rfl ⟨v, rfl, rfl⟩
end Go.Proofs.YtnlfhnbcdfdhgaaGreatDoor
