/- Contract: word.Claims. -/
import Derived.Test.YtacdheachjnejaaDoorW12
namespace Go.Sp
open Go Go.Av
set_option linter.unusedVariables false
set_option linter.unusedSimpArgs false
/-- The bits of the first so many places that look ahead. -/
def claimB (ps : List Int) (T : Nat → Nat → Bool) (i : Nat) : Nat → Int
  | 0 => 0
  | b + 1 => claimB ps T i b + if T ((ps[b]?).getD 0).toNat i = true then 2 ^ b else 0
theorem claimB_bound (ps : List Int) (T : Nat → Nat → Bool) (i : Nat) : ∀ b, 0 ≤ claimB ps T i b ∧ claimB ps T i b < 2 ^ b
  | 0 => by simp [claimB]
  | b + 1 => by
    have ih := claimB_bound ps T i b
    have hp : (0 : Int) < 2 ^ b := by exact_mod_cast Nat.pow_pos (by decide)
    simp only [claimB]
    rw [Int.pow_succ]
    split <;> omega
theorem claimB_claimAt (l : List Fo) (T : Nat → Nat → Bool) (i : Nat) : ∀ n, n ≤ l.length → claimAt l T i n = claimB (aheadL l 0) T i (rank l n)
  | 0, _ => rfl
  | n + 1, h => by
    have hn : n < l.length := by omega
    have ih := claimB_claimAt l T i n (by omega)
    simp only [claimAt]
    rw [rank_succ l n hn, ih]
    by_cases c : aheadP l[n].kind
    · rw [if_pos c]
      have hat := aheadL_at_rank l n hn (by rw [kindAt_eq l n hn]; exact c) l.length 0 (by omega) (Nat.zero_le _)
      simp only [rank, Nat.sub_zero, List.drop_zero] at hat
      simp only [claimB]
      rw [hat, kindAt_eq l n hn]
      show _ = _ + if T ((n : Int).toNat) i = true then _ else _
      rw [Int.toNat_natCast]
      by_cases t : T n i = true
      · rw [if_pos ⟨c, t⟩, if_pos t]
      · rw [if_neg (fun h => t h.2), if_neg t]
    · rw [if_neg c, kindAt_eq l n hn, if_neg (fun h => c h.1)]; simp
/-- The claims on their way through a row. -/
structure ClW (f g : Nat → Int) (N i : Nat) (out : List Int) : Prop where
  len : out.length = N
  done : ∀ (j : Nat) (h : j < out.length), j < i → out[j] = f j
  rest : ∀ (j : Nat) (h : j < out.length), i ≤ j → out[j] = g j
theorem ClW.next {f g : Nat → Int} {N i : Nat} {out : List Int} (w : ClW f g N i out) {x : Int} (hx : f i = x) : ClW f g N (i + 1) (out.set i x) := by
  refine ⟨by simp [w.len], fun j h hj => ?_, fun j h hj => ?_⟩
  · rw [List.getElem_set]
    split
    · rename_i e; subst e; exact hx.symm
    · exact w.done j (by simpa using h) (by omega)
  · rw [List.getElem_set, if_neg (by omega)]
    exact w.rest j (by simpa using h) (by omega)
theorem ClW.no {f g : Nat → Int} {N i : Nat} {out : List Int} (w : ClW f g N i out) (hx : f i = g i) : ClW f g N (i + 1) out := by
  refine ⟨w.len, fun j h hj => ?_, fun j h hj => w.rest j h (by omega)⟩
  by_cases e : j = i
  · subst e; rw [hx]; exact w.rest j h (Nat.le_refl _)
  · exact w.done j h (by omega)
end Go.Sp
namespace Go.Proofs.YtacdheachjnejaaDoor
open Go Go.Av Go.Sp
set_option linter.unusedVariables false
set_option linter.unusedSimpArgs false
set_option maxRecDepth 100000
set_option maxHeartbeats 4000000
theorem Claims (l : List Fo) (w : Wd) (p : Int) : ACr Tryd.prog GP 25 [.d (opsD l), wdA w, .int p] (.tup [.d (intsD (claimsF l w p).1), .int (claimsF l w p).2]) := by
  refine AC_ofV (ts := [6, 7]) Tryd.f25.ntmps Tryd.func25 rfl rfl rfl (by simp [Tryd.ntmps25]) fun W I => ?_
  by_cases h1 : ¬ formF l p = 0
  · have E := open_1 l w p h1
    repeat' (first
      | ((with_reducible apply call0); (focus rfl); (focus exact cal_wopen); (focus exact E); (focus rfl))
      | ((with_reducible apply je_call0); (focus rfl); (focus (decide +kernel)); (focus rfl); (focus exact cal_wopen); (focus exact E); (focus rfl))
      | exact True.intro
      | refine stph ?_
      | refine two ?_ ?_
      | refine allc fun c_ => ?_
      | (refine imp fun hc => ?_) <;> try (first | contradiction | (exfalso; omega) | (exfalso; exact absurd (of_dT hc) (by assumption)) | (exfalso; exact of_dF hc (by assumption)))
      | refine all fun v_ => ?_)
    refine retv (VS.trans (VS.drop (List.nil_sublist _)) (vnil (t := 6) 1 8 rfl)) ?_
    ((with_reducible apply rq2); rfl; rfl; rfl)
    refine ret_eq ?_
    rw [claimsF, if_pos h1]; rfl
  replace h1 := Decidable.not_not.1 h1
  by_cases h2 : ¬ wordF w p = 0
  · have E := open_2 l w p h1 h2
    repeat' (first
      | ((with_reducible apply call0); (focus rfl); (focus exact cal_wopen); (focus exact E); (focus rfl))
      | ((with_reducible apply je_call0); (focus rfl); (focus (decide +kernel)); (focus rfl); (focus exact cal_wopen); (focus exact E); (focus rfl))
      | exact True.intro
      | refine stph ?_
      | refine two ?_ ?_
      | refine allc fun c_ => ?_
      | (refine imp fun hc => ?_) <;> try (first | contradiction | (exfalso; omega) | (exfalso; exact absurd (of_dT hc) (by assumption)) | (exfalso; exact of_dF hc (by assumption)))
      | refine all fun v_ => ?_)
    refine retv (VS.trans (VS.drop (List.nil_sublist _)) (vnil (t := 6) 1 8 rfl)) ?_
    ((with_reducible apply rq2); rfl; rfl; rfl)
    refine ret_eq ?_
    rw [claimsF, if_neg (fun h => h h1), if_pos h2]; rfl
  replace h2 := Decidable.not_not.1 h2
  have g := good_of h1
  have h60 := g.h60
  have hcf : claimsF l w p = ((List.range (wal w).length).map fun i => claimAt l (wAt l (wal w) w.stem.length) i l.length, 0) := by rw [claimsF, if_neg (fun h => h h1), if_neg (fun h => h h2)]
  have hw := wordF_ok h2
  have hN : (w.stem ++ w.loop).length = w.stem.length + w.loop.length := List.length_append
  rw [hcf]
  have A0 := Ahead l p
  have ha : aheadsOf l p = (aheadL l 0, 0) := by rw [aheadsOf, if_neg (fun h => h h1)]
  rw [ha] at A0
  dsimp only at A0
  have hpl : (aheadL l 0).length = rank l l.length := aheads_len
  have hah := g.ah
  have hfin := fun i => claimB_claimAt l (wAt l (w.stem ++ w.loop) w.stem.length) i l.length (Nat.le_refl _)
  have hps : ∀ (b : Nat) (h : b < (aheadL l 0).length), ∃ q : Nat, (aheadL l 0)[b] = q ∧ q < l.length := fun b h => by
    obtain ⟨q, z1, z2, z3, z4, z5⟩ := aheadL_get l l.length 0 (by omega) b (aheadL l 0)[b] (by rw [List.drop_zero, List.getElem?_eq_getElem h])
    exact ⟨q, z1, z3⟩
  generalize aheadL l 0 = ps at A0 hpl hfin hps
  have hT : ∀ j, j < l.length → (tabR l (w.stem ++ w.loop) w.stem.length 0)[j]? = some (.d (boolsD (wRow l (w.stem ++ w.loop) w.stem.length j))) := fun j hj => tabR_get (Nat.zero_le _) hj
  have E := open_0 l w p h1 h2
  generalize tabR l (w.stem ++ w.loop) w.stem.length 0 = R at E hT
  repeat' (first
    | ((with_reducible apply callG); (focus rfl); (focus exact cal_wopen); (focus exact E); (focus ((repeat (first | with_reducible exact Take.nil | ((with_reducible apply Take.cons); (focus ((repeat (first | with_reducible exact Sel.here | with_reducible apply Sel.there)); done))))); done)); (focus rfl); (focus (intro v_; (repeat (first | exact App.nil | apply App.cons)); done)))
    | ((with_reducible apply call0); (focus rfl); (focus exact cal_Ahead); (focus exact A0); (focus rfl))
    | ((with_reducible apply je_call0); (focus rfl); (focus (decide +kernel)); (focus rfl); (focus exact cal_Ahead); (focus exact A0); (focus rfl))
    | exact True.intro
    | refine stph ?_
    | refine two ?_ ?_
    | refine allc fun c_ => ?_
    | (refine imp fun hc => ?_) <;> try (first | contradiction | (exfalso; omega) | (exfalso; exact absurd (of_dT hc) (by assumption)) | (exfalso; exact of_dF hc (by assumption)))
    | refine all fun v_ => ?_)
  obtain ⟨bo, rfl⟩ : ∃ x, x = v_ := ⟨_, rfl⟩
  rename Nat × Nat => v
  obtain ⟨bt, br⟩ := v
  dsimp only
  refine J_loopV (X := Nat × List Int) (fun y => [(8, .val (.pointer (some ⟨bt, 0, none⟩))), (12, .val (.slice (some ⟨bo, 0, none⟩) (w.stem ++ w.loop).length (w.stem ++ w.loop).length)), (39, .d (intsD ps)), (40, .int ps.length), (41, .int y.1)]) (fun y => [.cells bo 3 (y.2.map AV.int), .cells bt 76 [.d (opsD l), .d (intsD (endsOf l).1), .d (lettD (w.stem ++ w.loop)), .int w.stem.length, .val (.slice (some ⟨br, 0, none⟩) l.length l.length)], .cells br 35 R]) (fun y => y.1 ≤ ps.length ∧ ClW (fun j => claimB ps (wAt l (w.stem ++ w.loop) w.stem.length) j y.1) (fun j => claimB ps (wAt l (w.stem ++ w.loop) w.stem.length) j y.1) (w.stem ++ w.loop).length 0 y.2) (fun y => ps.length - y.1) (0, List.replicate (w.stem ++ w.loop).length 0) ⟨Nat.zero_le _, ⟨by simp, fun _ _ h => absurd h (Nat.not_lt_zero _), fun j h _ => by simp [claimB]⟩⟩ (VS.take (by ((repeat (first | exact Take.nil | ((with_reducible apply Take.cons); (focus ((repeat (first | exact Sel.here | with_reducible apply Sel.there)); done))))); done)) ?_) ?_
  · repeat (first
      | exact Env.le_nil _
      | refine Env.le_cons (AV.le_refl _) ?_
      | refine Env.le_cons (AV.le_int rfl (by first | rfl | omega | (dsimp only; omega))) ?_)
  rintro ⟨b, out⟩ ⟨b1, b2⟩
  dsimp only at b1 b2 ⊢
  have bl := b2.len
  by_cases hb : b < ps.length
  · obtain ⟨q, q1, q2⟩ := hps b hb
    have hRq : R[(ps[b]'hb).toNat]? = some (.d (boolsD (wRow l (w.stem ++ w.loop) w.stem.length q))) := by rw [q1, Int.toNat_natCast]; exact hT q q2
    have hrl := wRow_len l (w.stem ++ w.loop) w.stem.length q
    have hrg := wRow_get l (w.stem ++ w.loop) w.stem.length q
    have hb1 : ∀ j, claimB ps (wAt l (w.stem ++ w.loop) w.stem.length) j (b + 1) = claimB ps (wAt l (w.stem ++ w.loop) w.stem.length) j b + if wAt l (w.stem ++ w.loop) w.stem.length q j = true then 2 ^ b else 0 := fun j => by
      rw [claimB, List.getElem?_eq_getElem hb, q1]; simp
    generalize wRow l (w.stem ++ w.loop) w.stem.length q = row at hRq hrl hrg
    repeat' (first
      | exact True.intro
      | refine stph ?_
      | refine two ?_ ?_
      | refine allc fun c_ => ?_
      | (refine imp fun hc => ?_) <;> try (first | contradiction | (exfalso; omega) | (exfalso; exact absurd (of_dT hc) (by assumption)) | (exfalso; exact of_dF hc (by assumption)))
      | refine all fun v_ => ?_)
    refine J_loopV (X := Nat × List Int) (fun y => [(8, .val (.pointer (some ⟨bt, 0, none⟩))), (12, .val (.slice (some ⟨bo, 0, none⟩) (w.stem ++ w.loop).length (w.stem ++ w.loop).length)), (13, .int b), (39, .d (intsD ps)), (40, .int ps.length), (41, .int b), (52, .d (boolsD row)), (53, .int row.length), (54, .int y.1)]) (fun y => [.cells bo 3 (y.2.map AV.int), .cells bt 76 [.d (opsD l), .d (intsD (endsOf l).1), .d (lettD (w.stem ++ w.loop)), .int w.stem.length, .val (.slice (some ⟨br, 0, none⟩) l.length l.length)], .cells br 35 R]) (fun y => y.1 ≤ row.length ∧ ClW (fun j => claimB ps (wAt l (w.stem ++ w.loop) w.stem.length) j (b + 1)) (fun j => claimB ps (wAt l (w.stem ++ w.loop) w.stem.length) j b) (w.stem ++ w.loop).length y.1 y.2) (fun y => row.length - y.1) (0, out) ⟨Nat.zero_le _, ⟨bl, fun _ _ h => absurd h (Nat.not_lt_zero _), fun j h hj => b2.rest j h hj⟩⟩ (VS.of_le ?_) ?_
    · repeat (first
        | exact Env.le_nil _
        | refine Env.le_cons (AV.le_refl _) ?_
        | refine Env.le_cons (AV.le_int rfl (by first | rfl | omega | (dsimp only; omega))) ?_)
    rintro ⟨j, out⟩ ⟨j1, j2⟩
    dsimp only at j1 j2 ⊢
    have jl := j2.len
    by_cases hj : j < row.length
    · have hjo : j < out.length := by omega
      have hv := j2.rest j hjo (Nat.le_refl _)
      have hbd := claimB_bound ps (wAt l (w.stem ++ w.loop) w.stem.length) j b
      have hp6 := pow6 (j := b) (by omega)
      have hrj := hrg j hj
      have hin : inI64 (1 * 2 ^ ((b : Nat) : Int).toNat) := by rw [Int.toNat_natCast]; unfold inI64; omega
      have hor : bits .or .i64 out[j] (1 * 2 ^ ((b : Nat) : Int).toNat) = out[j] + 2 ^ b := by
        rw [Int.toNat_natCast, Int.one_mul, hv]
        exact or_join b hbd.1 hbd.2 (by omega) Int.emod_self (by omega) (by omega)
      have hbj := hb1 j
      repeat' (first
        | exact True.intro
        | refine stph ?_
        | refine two ?_ ?_
        | refine allc fun c_ => ?_
        | (refine imp fun hc => ?_) <;> try (first | contradiction | (exfalso; omega) | (exfalso; exact absurd (of_dT hc) (by assumption)) | (exfalso; exact of_dF hc (by assumption)))
        | refine all fun v_ => ?_)
      · have hT : wAt l (w.stem ++ w.loop) w.stem.length q j = true := hrj.symm.trans (by assumption)
        rw [if_pos hT] at hbj
        rw [hor]
        refine ⟨(j + 1, out.set j (out[j] + 2 ^ b)), ⟨by dsimp only; omega, j2.next (by rw [hbj, hv])⟩, by dsimp only; omega, VS.of_le ?_⟩
        repeat (first
          | exact Env.le_nil _
          | refine Env.le_cons (AV.le_refl _) ?_
          | refine Env.le_cons (AV.le_int rfl (by first | rfl | omega | (dsimp only; omega))) ?_)
      · have hT : wAt l (w.stem ++ w.loop) w.stem.length q j = false := hrj.symm.trans (by assumption)
        rw [if_neg (by rw [hT]; decide)] at hbj
        refine ⟨(j + 1, out), ⟨by dsimp only; omega, j2.no (by rw [hbj]; simp)⟩, by dsimp only; omega, VS.of_le ?_⟩
        repeat (first
          | exact Env.le_nil _
          | refine Env.le_cons (AV.le_refl _) ?_
          | refine Env.le_cons (AV.le_int rfl (by first | rfl | omega | (dsimp only; omega))) ?_)
    · repeat' (first
        | exact True.intro
        | refine stph ?_
        | refine two ?_ ?_
        | refine allc fun c_ => ?_
        | (refine imp fun hc => ?_) <;> try (first | contradiction | (exfalso; omega) | (exfalso; exact absurd (of_dT hc) (by assumption)) | (exfalso; exact of_dF hc (by assumption)))
        | refine all fun v_ => ?_)
      refine ⟨(b + 1, out), ⟨by dsimp only; omega, ⟨jl, fun _ _ h => absurd h (Nat.not_lt_zero _), fun j' h' _ => j2.done j' h' (by dsimp only at h'; omega)⟩⟩, by dsimp only; omega, VS.of_le ?_⟩
      repeat (first
        | exact Env.le_nil _
        | refine Env.le_cons (AV.le_refl _) ?_
        | refine Env.le_cons (AV.le_int rfl (by first | rfl | omega | (dsimp only; omega))) ?_)
  · have hbe : b = rank l l.length := by omega
    subst hbe
    have : out = (List.range (wal w).length).map fun i => claimAt l (wAt l (wal w) w.stem.length) i l.length := by
      refine List.ext_getElem (by simp [bl]) fun j h _ => ?_
      rw [b2.rest j h (Nat.zero_le _), ← hfin]; simp
    rw [← this]
    repeat' (first
      | exact True.intro
      | refine stph ?_
      | refine two ?_ ?_
      | refine allc fun c_ => ?_
      | (refine imp fun hc => ?_) <;> try (first | contradiction | (exfalso; omega) | (exfalso; exact absurd (of_dT hc) (by assumption)) | (exfalso; exact of_dF hc (by assumption)))
      | refine all fun v_ => ?_)
    refine retv (VS.trans (VS.take (hc := [.cells bo 3 (out.map AV.int)]) (by ((repeat (first | exact Take.nil | ((with_reducible apply Take.cons); (focus ((repeat (first | exact Sel.here | with_reducible apply Sel.there)); done))))); done)) (Env.le_refl _)) (vfz (t := 6) (f := intC) (h1 := []) 1 8 rfl rfl rfl (ints_flat out) bl (fun _ => rfl) (by omega) (by omega))) ?_
    ((with_reducible apply rq2); rfl; rfl; rfl)
    exact ret_eq rfl
end Go.Proofs.YtacdheachjnejaaDoor
