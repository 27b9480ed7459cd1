/- A bundle of this claim's own texts: P12 P13. -/
import Derived.Test.YtnlfhnbcdfdhgaaGreatDoorF42
set_option linter.unusedVariables false
set_option linter.unusedSimpArgs false
set_option maxRecDepth 100000
set_option maxHeartbeats 4000000
namespace Go.Sp
open Go Go.Av
theorem bZ (t : Tk) : ∀ (k : Nat) (x : Ms), x.n ≤ x.m → (wkF t k x).m = max x.m (wkF t k x).n
 | 0, x, h => by show x.m = max x.m x.n; omega
 | k + 1, x, h => by
   by_cases c : Gu t x
   · rw [KY c, bZ t k x.go (show x.n + 1 ≤ max x.m (x.n + 1) by omega)]
     have h1 := (JF t k x.go).2.2
     have h2 : x.go.n = x.n + 1 := rfl
     have h3 : x.go.m = max x.m (x.n + 1) := rfl
     omega
   · rw [Ib c]; omega
theorem Um {t : Tk} {e : Exp} (g : Grown t e) (k : Int) : (runM t [⟨1, k⟩, ⟨3, 0⟩, ⟨4, 0⟩, ⟨1, k⟩]).up = true ∧ (runM t [⟨1, k⟩, ⟨3, 0⟩, ⟨4, 0⟩, ⟨1, k⟩]).a = min k.toNat e.spots.length := by
 have h1 : runM t [⟨1, k⟩, ⟨3, 0⟩, ⟨4, 0⟩, ⟨1, k⟩] = mvF t (mvF t (mvF t (mvF t B7 ⟨1, k⟩) ⟨3, 0⟩) ⟨4, 0⟩) ⟨1, k⟩ := rfl
 have r1 : DL t e (mvF t B7 ⟨1, k⟩) := DL.nil.mv g _
 have r2 := r1.mv g ⟨3, 0⟩
 have r3 := r2.mv g ⟨4, 0⟩
 have c0 := r1.crash0
 have e1 : mvF t B7 ⟨1, k⟩ = wkF t k.toNat B7 := Hh rfl k
 obtain ⟨a1, a2, a3, a4⟩ := HE g k.toNat (MsI.nil (t := t) (e := e))
 have m1 := bZ t k.toNat B7 (Nat.le_refl _)
 have n0 : B7.n = 0 ∧ B7.m = 0 ∧ B7.a = 0 ∧ B7.s = 0 ∧ B7.up = true := ⟨rfl, rfl, rfl, rfl, rfl⟩
 have hu : (wkF t k.toNat B7).up = true := by rw [a1]; rfl
 have e2 : mvF t (mvF t B7 ⟨1, k⟩) ⟨3, 0⟩ = ⟨false, 0, 0, (wkF t k.toNat B7).m, (wkF t k.toNat B7).a⟩ := by
  rw [e1, Ij hu, a2, show B7.s = 0 from rfl]
  rw [show kpF t (byF t 0 + (0 : Int).toNat) (wkF t k.toNat B7).n = 0 from Ta t (Nat.zero_le _)]
 rw [h1]
 rw [e2, HG] at r3
 rw [e2, HG]
 dsimp only at r3 ⊢
 rw [Hh rfl]
 have a0 : (wkF t k.toNat B7).a = 0 ∧ (wkF t k.toNat B7).m = (wkF t k.toNat B7).n := by
  have h5 := (MsI.nil (t := t) (e := e)).wk g k.toNat
  have h6 := h5.n
  omega
 obtain ⟨b1, b2, b3, b4⟩ := HE g k.toNat r3.ms
 have m2 := bZ t k.toNat _ r3.ms.n
 dsimp only at b1 b3 b4 m2
 refine ⟨b1, ?_⟩
 omega
end Go.Sp
namespace Go.Proofs.YtnlfhnbcdfdhgaaGreatDoor
open Go Go.Av Go.Sp

theorem KU (d : De) (hd : TY d) (raw : List Fo) (hr : BH raw) (l : List Fo) (hl : BH l) : ACr Tryz.prog GP 7 [deA d, .d (AO raw), .d (AO l)] (.bool true) := by
 have hT := Td GP d hd raw hr 2 (by decide)
 have hf := FoG.of raw (t := 2) (by decide)
 obtain ⟨e, he⟩ := Ho d hf
 have hE := GK (DP d (Bi raw 2))
 rw [ON he, he] at hE
 dsimp only at hE
 have g := HO he
 have ei : (A3 (DP d (Bi raw 2))).1.length = nkF (DP d (Bi raw 2)) 0 := rfl
 rw [ei] at hE
 generalize (Ai (DP d (Bi raw 2)).formula (DP d (Bi raw 2)).props.length).1.length = am at hE
 generalize DP d (Bi raw 2) = t at hT he hE g
 clear ei hf
 have hN := g.few
 have hM := PW l hl 30 (by decide)
 have hok := Ie l 30
 have hml := F2 l 30
 generalize C8 l 30 = ms at hM hok hml
 have h3 := Um g 2
 have hS3 := Hk t e he [⟨1, 2⟩, ⟨3, 0⟩, ⟨4, 0⟩, ⟨1, 2⟩] (by decide)
 unfold ML at hS3
 generalize runM t [⟨1, 2⟩, ⟨3, 0⟩, ⟨4, 0⟩, ⟨1, 2⟩] = x3 at h3 hS3
 obtain ⟨u3, s3⟩ := h3
 rw [u3] at hS3
 generalize (true && decide (x3.n = nkF t x3.n)) = dn3 at hS3
 generalize (dn3 && decide ((C5 (exG t)).2 ≠ 0)) = ho3 at hS3
 refine AJ (ts := [6]) Tryz.f7.ntmps Tryz.func7 rfl rfl rfl (by simp [Tryz.ntmps7]) fun W I => ?_
 repeat' (first
  | refine ca Hv (hT) ?_
  | refine ca GO (hM) ?_
  | exact True.intro | refine AP ?_ | refine two ?_ ?_
  | (refine imp fun hc => ?_) <;> try exact cx hc
  | refine all fun v_ => ?_)
 obtain ⟨bt, rfl⟩ : ∃ x, x = v_ := ⟨v_, rfl⟩
 refine AM (X := Nat × Nat × Nat) (fun y => [(7, .val (.pointer (some ⟨bt, 0, none⟩))), (8, .d (AO ms)), (9, .int y.2.1), (10, .int y.2.2), (11, .int y.1)]) (fun _ => [.cells bt 29 [.d (BT t.model.vars), .d (A2 t.model.rules), .d (BU t.props), .d (AO t.formula)]]) (fun y => y.1 ≤ ms.length + 1 ∧ y.2.1 ≤ 20000 * y.1 ∧ y.2.2 ≤ 20000 ∧ ∀ j, y.1 = j + 1 → y.2.2 = (runM t (ms.take j)).n ∧ (runM t (ms.take j)).a + ((runM t (ms.take j)).m - (runM t (ms.take j)).n) ≤ y.2.1) (fun y => ms.length + 1 - y.1) (0, 0, 0) ⟨Nat.zero_le _, Nat.zero_le _, Nat.zero_le _, fun j h => by cases h⟩ (VS.take (by exact AD) ?_) ?_
 · exact leD
 rintro ⟨k, lo, was⟩ ⟨hk, hlo, hwas, hj⟩
 dsimp only at hk hlo hwas hj ⊢
 by_cases hkl : k ≤ ms.length
 · have hS := Hk t e he (ms.take k) (Kf (Is hok k) (by rw [List.length_take]; omega))
   have hrun := g.runI (ms.take k)
   have hag : ∀ j (h : j < ms.length), k = j + 1 → (runM t (ms.take k)).a + ((runM t (ms.take k)).m - (runM t (ms.take k)).n) ≤ lo + QK was ms[j] (runM t (ms.take k)).n ∧ (ms[j].kind = 3 → (runM t (ms.take k)).n ≤ was) := fun j h e1 => by
    subst e1
    obtain ⟨q1, q2⟩ := hj j rfl
    have hrj := g.runI (ms.take j)
    have hkd := (hok ms[j] (List.getElem_mem h)).1
    rw [LA t ms j h]
    have h1 := hrj.again g (m := ms[j]) (by omega)
    rw [q1]
    refine ⟨by omega, fun e3 => ?_⟩
    have h2 : ms[j] = ⟨3, ms[j].val⟩ := Fo.ext' e3 rfl
    have := (hrj.crash g ms[j].val).2.2.1
    rw [← h2] at this
    exact this
   have hnil : k = 0 → runM t (ms.take k) = B7 := fun h => by subst h; rfl
   have hlast : ∀ lo', (runM t (ms.take k)).a + ((runM t (ms.take k)).m - (runM t (ms.take k)).n) ≤ lo' → ∀ j, k + 1 = j + 1 → (runM t (ms.take k)).n = (runM t (ms.take j)).n ∧ (runM t (ms.take j)).a + ((runM t (ms.take j)).m - (runM t (ms.take j)).n) ≤ lo' := fun lo' h j e1 => by
    obtain rfl : k = j := by omega
    exact ⟨rfl, h⟩
   have hxN := hrun.ms.nN
   unfold ML at hS
   generalize runM t (ms.take k) = x at hS hrun hag hnil hlast hxN
   generalize (x.up && decide (x.n = nkF t x.n)) = dn at hS
   generalize (dn && decide ((C5 (exG t)).2 ≠ 0)) = ho at hS
   repeat' (first
    | refine ca Bo (hS) ?_
    | exact True.intro | refine Ps ?_ | refine two ?_ ?_ | refine AF fun c_ => ?_
    | (refine imp fun hc => ?_) <;> try exact cx hc
    | refine all fun v_ => ?_)
   refine ⟨?_⟩
   refine GW (X := Nat) (fun y => [(12, .val (.pointer (some ⟨y, 0, none⟩))), (13, .bool true), (7, .val (.pointer (some ⟨bt, 0, none⟩))), (8, .d (AO ms)), (9, .int lo), (10, .int was), (11, .int k)]) (fun y => [.cells y 33 [.bool x.up, .int (nkF t x.n), .int x.n, .int x.s, .int x.a, .bool dn, .bool ho], .cells bt 29 [.d (BT t.model.vars), .d (A2 t.model.rules), .d (BU t.props), .d (AO t.formula)]]) ?_ ?_
   · refine Cm [] mixed rfl (by (repeat (with_reducible apply AU)); exact len_nil) (by decide +kernel) (by exact AW) ?_
     repeat' (first
      | refine ca Bo (hS) ?_
      | exact True.intro | refine AG ?_ | refine two ?_ ?_ | refine AF fun c_ => ?_
      | (refine imp fun hc => ?_) <;> try exact cx1 hc
      | refine all fun v_ => ?_)
     all_goals
      refine ⟨_, VS.take (by exact AD) ?_⟩
      exact leD
   intro bo
   clear hS hS3 hT he hE hM hrun hok hj
   by_cases hk0 : k = 0
   · have hx := hnil hk0
     have hx1 : x.a = 0 ∧ x.m = 0 ∧ x.n = 0 := by rw [hx]; exact ⟨rfl, rfl, rfl⟩
     repeat' (first
      | exact True.intro
      | refine stp ?_
      | refine two ?_ ?_
      | (refine imp fun hc => ?_) <;> try exact cx hc
      | refine all fun v_ => ?_)
     refine ⟨(k + 1, lo, x.n), ⟨by dsimp only; omega, by dsimp only; omega, by dsimp only; omega, hlast lo (by omega)⟩, by dsimp only; omega, VS.take (by exact AD) ?_⟩
     exact leD
   · have hi : ((k : Int) - 1).toNat < ms.length := by omega
     obtain ⟨g1, g2⟩ := hag _ hi (by omega)
     by_cases h2 : (ms[((k : Int) - 1).toNat]'hi).kind = 3
     · have h5 := g2 h2
       unfold QK at g1
       rw [if_pos h2] at g1
       have hcast : (lo : Int) + ((was : Int) - x.n) = ((lo + (was - x.n) : Nat) : Int) := by omega
       repeat' (first
        | exact True.intro
        | refine stp ?_
        | refine two ?_ ?_
        | (refine imp fun hc => ?_) <;> try exact cx hc
        | refine all fun v_ => ?_)
       refine ⟨(k + 1, lo + (was - x.n), x.n), ⟨by dsimp only; omega, by dsimp only; omega, by dsimp only; omega, hlast _ g1⟩, by dsimp only; omega, VS.take (by exact AD) ?_⟩
       exact leD
     · unfold QK at g1
       rw [if_neg h2] at g1
       repeat' (first
        | exact True.intro
        | refine stp ?_
        | refine two ?_ ?_
        | (refine imp fun hc => ?_) <;> try exact cx hc
        | refine all fun v_ => ?_)
       refine ⟨(k + 1, lo, x.n), ⟨by dsimp only; omega, by dsimp only; omega, by dsimp only; omega, hlast _ (by omega)⟩, by dsimp only; omega, VS.take (by exact AD) ?_⟩
       exact leD
 · obtain rfl : k = ms.length + 1 := by omega
   repeat' (first
    | refine ca Ci (hE) ?_
    | exact True.intro | refine AG ?_ | refine two ?_ ?_ | refine AF fun c_ => ?_
    | (refine imp fun hc => ?_) <;> try exact cx1 hc
    | refine all fun v_ => ?_)
   refine C3 (VS.of_le (Env.le_cons (t := 78) (x := .agg [.int 1, .int 2]) (AV.le_agg ⟨fun _ _ _ h => h, fun _ _ _ h => h, trivial⟩) (Env.le_cons (t := 77) (x := .agg [.int 4, .int 0]) (AV.le_agg ⟨fun _ _ _ h => h, fun _ _ _ h => h, trivial⟩) (Env.le_cons (t := 76) (x := .agg [.int 3, .int 0]) (AV.le_agg ⟨fun _ _ _ h => h, fun _ _ _ h => h, trivial⟩) (Env.le_cons (t := 75) (x := .agg [.int 1, .int 2]) (AV.le_agg ⟨fun _ _ _ h => h, fun _ _ _ h => h, trivial⟩) (Env.le_refl _)))))) ?_
   repeat' (first
    | refine ca Bo (hS3) ?_
    | ((with_reducible apply RW); (iterate 5 focus rfl); (focus (with_reducible exact ElC.h)); (focus rfl); (focus rfl))
    | exact True.intro | refine AG ?_ | refine two ?_ ?_ | refine AF fun c_ => ?_
    | (refine imp fun hc => ?_) <;> try exact cx1 hc
    | refine all fun v_ => ?_)
   all_goals
    refine AN (VS.drop (List.nil_sublist _)) ?_
    ((with_reducible apply rq1); rfl; rfl)
    refine AB (congrArg AV.bool (decide_eq_true ?_))
    dsimp only
    omega
end Go.Proofs.YtnlfhnbcdfdhgaaGreatDoor
namespace Go.Sp
open Go Go.Av
def Dd (l : List Fo) : List Fo := l.filter fun m => !decide (m.kind = 3)
def Db (l : List Fo) : Nat := (l.map fun m => if m.kind = 1 then m.val.toNat else 0).sum
theorem Uv (l : List Fo) (m : Fo) : Db (l ++ [m]) = Db l + (if m.kind = 1 then m.val.toNat else 0) := by unfold Db; simp
theorem Uf (l : List Fo) (m : Fo) : Dd (l ++ [m]) = if m.kind = 3 then Dd l else Dd l ++ [m] := by
 unfold Dd
 rw [List.filter_append]
 by_cases h : m.kind = 3
 · rw [if_pos h]; simp [h]
 · rw [if_neg h]; simp [h]
theorem Pv (l : List Fo) : (Dd l).length ≤ l.length := List.length_filter_le _ _
theorem NI : ∀ l : List Fo, Db (Dd l) = Db l
 | [] => rfl
 | m :: l => by
   have ih := NI l
   by_cases h : m.kind = 3
   · have e : Dd (m :: l) = Dd l := by unfold Dd; rw [List.filter_cons]; simp [h]
     rw [e, ih]; unfold Db; rw [List.map_cons, List.sum_cons, if_neg (by omega)]; omega
   · have e : Dd (m :: l) = m :: Dd l := by unfold Dd; rw [List.filter_cons]; simp [h]
     rw [e]; unfold Db at ih ⊢; rw [List.map_cons, List.sum_cons, List.map_cons, List.sum_cons, ih]
theorem Qm {t : Tk} {e : Exp} (g : Grown t e) : ∀ (l : List Fo), (∀ m ∈ l, m.kind ≠ 3 ∧ okM m) → ∀ {x : Ms}, DL t e x → x.up = true → x.m = x.n →
 (l.foldl (mvF t) x).up = true ∧ (l.foldl (mvF t) x).a = x.a ∧ (l.foldl (mvF t) x).n = min (x.n + Db l) e.spots.length
 | [], _, x, h, hu, hm => ⟨hu, rfl, by have := h.ms.nN; show x.n = min (x.n + 0) _; omega⟩
 | m :: l, hl, x, h, hu, hm => by
   obtain ⟨h3, hk, hv⟩ := hl m List.mem_cons_self
   have hw : Db (m :: l) = (if m.kind = 1 then m.val.toNat else 0) + Db l := by unfold Db; rw [List.map_cons, List.sum_cons]
   have key : (mvF t x m).up = true ∧ (mvF t x m).a = x.a ∧ (mvF t x m).m = (mvF t x m).n ∧ (mvF t x m).n = min (x.n + (if m.kind = 1 then m.val.toNat else 0)) e.spots.length := by
    obtain ⟨c, v⟩ := m
    dsimp only at h3 hk hv ⊢
    have hN := h.ms.nN
    have : c = 4 ∨ c = 1 ∨ c = 2 := by omega
    rcases this with rfl | rfl | rfl
    · rw [HG, if_neg (by decide)]; exact ⟨rfl, rfl, hm, by dsimp only; omega⟩
    · rw [Hh hu, if_pos rfl]
      obtain ⟨a1, a2, a3, a4⟩ := HE g v.toNat h.ms
      have m1 := bZ t v.toNat x (by omega)
      have m2 := (JF t v.toNat x).2.2
      exact ⟨by rw [a1]; exact hu, by omega, by omega, a3⟩
    · rw [Ih hu, if_neg (by decide)]; exact ⟨hu, rfl, hm, by dsimp only; omega⟩
   obtain ⟨k1, k2, k3, k4⟩ := key
   obtain ⟨r1, r2, r3⟩ := Qm g l (fun m hm => hl m (List.mem_cons_of_mem _ hm)) (h.mv g m) k1 k3
   rw [List.foldl_cons]
   exact ⟨r1, by rw [r2, k2], by rw [r3, k4, hw]; omega⟩
theorem YW {l : List Fo} (h : ∀ m ∈ l, okM m) : ∀ m ∈ Dd l, m.kind ≠ 3 ∧ okM m := fun m hm => by
 unfold Dd at hm
 obtain ⟨h1, h2⟩ := List.mem_filter.1 hm
 exact ⟨by simpa using h2, h m h1⟩
theorem Su {l : List Fo} (h : ∀ m ∈ l, okM m) : Db l ≤ 2147483647 * l.length := by
 induction l with
 | nil => exact Nat.le_refl _
 | cons m l ih =>
   have h1 := (h m List.mem_cons_self).2
   have h2 := ih fun x hx => h x (List.mem_cons_of_mem _ hx)
   unfold Db at h2 ⊢
   rw [List.map_cons, List.sum_cons, List.length_cons]
   split <;> omega
end Go.Sp
namespace Go.Proofs.YtnlfhnbcdfdhgaaGreatDoor
open Go Go.Av Go.Sp

theorem LC (d : De) (hd : TY d) (raw : List Fo) (hr : BH raw) (l : List Fo) (hl : BH l) : ACr Tryz.prog GP 10 [deA d, .d (AO raw), .d (AO l)] (.bool true) := by
 have hT := Td GP d hd raw hr 2 (by decide)
 have hf := FoG.of raw (t := 2) (by decide)
 obtain ⟨e, he⟩ := Ho d hf
 have hE := GK (DP d (Bi raw 2))
 rw [ON he, he] at hE
 dsimp only at hE
 have g := HO he
 have ei : (A3 (DP d (Bi raw 2))).1.length = nkF (DP d (Bi raw 2)) 0 := rfl
 rw [ei] at hE
 generalize (Ai (DP d (Bi raw 2)).formula (DP d (Bi raw 2)).props.length).1.length = am at hE
 generalize DP d (Bi raw 2) = t at hT he hE g
 clear ei hf
 have hN := g.few
 have hM := PW l hl 30 (by decide)
 have hok := Ie l 30
 have hml := F2 l 30
 generalize C8 l 30 = ms at hM hok hml
 have hca := YW hok
 have hcl := Pv ms
 have hS := Hk t e he (Dd ms) (Kf (fun m h => (hca m h).2) (by omega))
 have hx := Qm g (Dd ms) hca DL.nil rfl rfl
 rw [NI] at hx
 unfold ML at hS
 unfold runM at hS
 generalize (Dd ms).foldl (mvF t) B7 = x at hx hS
 obtain ⟨hu, ha, hn⟩ := hx
 have ha' : x.a = 0 := ha
 have hn' : x.n = min (Db ms) e.spots.length := by rw [hn]; show min (0 + Db ms) _ = _; rw [Nat.zero_add]
 clear ha hn
 rw [hu] at hS
 generalize (true && decide (x.n = nkF t x.n)) = dn at hS
 generalize (dn && decide ((C5 (exG t)).2 ≠ 0)) = ho at hS
 refine AJ (ts := [6]) Tryz.f10.ntmps Tryz.func10 rfl rfl rfl (by simp [Tryz.ntmps10]) fun W I => ?_
 refine F6 (E := 59) (sz := 2) Fo.cells ?_
 repeat' (first
  | refine ca Hv (hT) ?_
  | refine ca GO (hM) ?_
  | exact True.intro | refine AP ?_ | refine two ?_ ?_
  | (refine imp fun hc => ?_) <;> try exact cx hc
  | refine all fun v_ => ?_)
 obtain ⟨bt, rfl⟩ : ∃ x, x = v_ := ⟨v_, rfl⟩
 refine AM (X := Nat × Sl) (fun y => [(7, .val (.pointer (some ⟨bt, 0, none⟩))), (8, .d (AO ms)), (9, .val y.2.v), (10, .int (Db (ms.take y.1))), (11, .int y.1)]) (fun y => [AH y.2.v 59 2 Fo.cells (Dd (ms.take y.1)), .cells bt 29 [.d (BT t.model.vars), .d (A2 t.model.rules), .d (BU t.props), .d (AO t.formula)]]) (fun y => y.1 ≤ ms.length) (fun y => ms.length - y.1) (0, Sl.nil) (Nat.zero_le _) (VS.take (by exact AD) ?_) ?_
 · exact leD
 rintro ⟨i, q⟩ hi
 dsimp only at hi ⊢
 by_cases hil : i < ms.length
 · have hm := hok ms[i] (List.getElem_mem hil)
   have ew := Uv (ms.take i) ms[i]
   have ec := Uf (ms.take i) ms[i]
   rw [← List.take_succ_eq_append_getElem hil] at ew ec
   have hwb := Su (Is hok i)
   have htl : (ms.take i).length ≤ 30 := by rw [List.length_take]; omega
   have hcl2 := Pv (ms.take i)
   unfold okM at hm
   by_cases c3 : ms[i].kind = 3
   · rw [if_pos c3] at ec
     rw [if_neg (by omega), Nat.add_zero] at ew
     repeat' (first
      | ((with_reducible apply (BX (f := Fo.cells) (u := ms[i]))); (focus rfl); (focus rfl); (focus (with_reducible exact ElC.h)); (focus exact BS); (iterate 4 focus rfl); (focus exact Af); (focus exact Af))
      | exact True.intro | refine AG ?_ | refine two ?_ ?_ | refine AF fun c_ => ?_
      | (refine imp fun hc => ?_) <;> try exact cx1 hc
      | refine all fun v_ => ?_)
     refine ⟨(i + 1, q), hil, by dsimp only; omega, VS.take (by dsimp only; rw [ec]; exact AD) ?_⟩
     rw [ew]
     exact leD
   · rw [if_neg c3] at ec
     by_cases c1 : ms[i].kind = 1
     · rw [if_pos c1] at ew
       have ew' : ((Db (ms.take (i + 1)) : Nat) : Int) = (Db (ms.take i) : Int) + ms[i].val := by rw [ew]; omega
       repeat' (first
        | ((with_reducible apply (BX (f := Fo.cells) (u := ms[i]))); (focus rfl); (focus rfl); (focus (with_reducible exact ElC.h)); (focus exact BS); (iterate 4 focus rfl); (focus exact Af); (focus exact Af))
        | exact True.intro | refine AG ?_ | refine two ?_ ?_ | refine AF fun c_ => ?_
        | (refine imp fun hc => ?_) <;> try exact cx1 hc
        | refine all fun v_ => ?_)
       refine ⟨(i + 1, v_), hil, by dsimp only; omega, VS.take (by dsimp only; rw [ec]; exact AD) ?_⟩
       rw [ew']
       exact leD
     · rw [if_neg c1, Nat.add_zero] at ew
       repeat' (first
        | ((with_reducible apply (BX (f := Fo.cells) (u := ms[i]))); (focus rfl); (focus rfl); (focus (with_reducible exact ElC.h)); (focus exact BS); (iterate 4 focus rfl); (focus exact Af); (focus exact Af))
        | exact True.intro | refine AG ?_ | refine two ?_ ?_ | refine AF fun c_ => ?_
        | (refine imp fun hc => ?_) <;> try exact cx1 hc
        | refine all fun v_ => ?_)
       refine ⟨(i + 1, v_), hil, by dsimp only; omega, VS.take (by dsimp only; rw [ec]; exact AD) ?_⟩
       rw [ew]
       exact leD
 obtain rfl : i = ms.length := by omega
 rw [List.take_length]
 refine Ox (By (t := 9) (eb := 16) rfl rfl (fun x => rfl) (by omega)) ?_
 repeat' (first
  | refine ca Ci (hE) ?_
  | refine ca Bo (hS) ?_
  | exact True.intro | refine AG ?_ | refine two ?_ ?_ | refine AF fun c_ => ?_
  | (refine imp fun hc => ?_) <;> try exact cx1 hc
  | refine all fun v_ => ?_)
 all_goals first
  | (exfalso
     apply hc
     dsimp only
     omega)
  | (refine AN (VS.drop (List.nil_sublist _)) ?_
     ((with_reducible apply rq1); rfl; rfl)
     refine AB (congrArg AV.bool (decide_eq_true ?_))
     dsimp only
     omega)
end Go.Proofs.YtnlfhnbcdfdhgaaGreatDoor
