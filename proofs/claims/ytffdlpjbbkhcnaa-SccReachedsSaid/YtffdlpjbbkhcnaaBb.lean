/-
  PLAIN, NO PROGRAM: results that lie in variables; rows that become data where they are stored; small rules (over Ba).
-/
import Derived.Test.YtffdlpjbbkhcnaaBa
namespace Go.Av
open Go

/-! ### Results in variables -/
def resSem (tmps : Array Value) : ResultVar → Sem Value
  | .tmp t => pure (tmps.getD t undef)
  | .cell a t => do loadVar t (← asAddr (tmps.getD a undef))
def RV1 (P : Program) (G : List (Nat × List D)) (ρ : Env) (h : H) (r : ResultVar) (x : AV) : Prop :=
  ∀ (c : Cx) (I : Nat → Prop) (n : Nat) (a : Act) (w : World), c.G = G → Ok c I h w → SF n w I ρ a → ∃ v, AV.rel w I x v ∧ (resSem a.tmps r).run P w = .ok v w
def RVs (P : Program) (G : List (Nat × List D)) (ρ : Env) (h : H) : List ResultVar → List AV → Prop
  | [], [] => True
  | r :: rs, x :: xs => RV1 P G ρ h r x ∧ RVs P G ρ h rs xs
  | _, _ => False
def tupAV : List AV → AV
  | [x] => x
  | xs => .tup xs
theorem mapM_results {P : Program} {G : List (Nat × List D)} {ρ : Env} {h : H} {c : Cx} {I : Nat → Prop} {n : Nat} {a : Act} {w : World} (hG : c.G = G) (k : Ok c I h w) (s : SF n w I ρ a) : ∀ {rs : List ResultVar} {xs : List AV}, RVs P G ρ h rs xs →
    ∃ vs, (List.mapM (resSem a.tmps) rs).run P w = .ok vs w ∧ AV.rels w I xs vs
  | [], [], _ => ⟨[], rfl, trivial⟩
  | r :: rs, x :: xs, ⟨h1, h2⟩ => by
    obtain ⟨v, e1, e2⟩ := h1 c I n a w hG k s
    obtain ⟨vs, f1, f2⟩ := mapM_results hG k s h2
    refine ⟨v :: vs, ?_, e1, f2⟩
    rw [List.mapM_cons]
    simp only [Sem.run_bind, Sem.run_pure, Result.andThen_ok, e2, f1]
theorem run_resultsR {P : Program} {fn : Func} {rs : List ResultVar} (hr : fn.results = rs.toArray) {tmps : Array Value} {w : World} {vs : List Value} (hm : (List.mapM (resSem tmps) rs).run P w = .ok vs w) :
    (results fn tmps).run P w = .ok (if h : vs.toArray.size = 1 then vs.toArray[0] else .tuple vs.toArray) w := by
  have e : (fun (x : ResultVar) => (match x with | .tmp t => pure (tmps.getD t undef) | .cell a t => do loadVar t (← asAddr (tmps.getD a undef)) : Sem Value)) = resSem tmps := by
    funext x; cases x <;> rfl
  unfold results
  rw [hr]
  simp only [List.mapM_toArray, Sem.run_bind, Sem.run_map]
  erw [e]
  rw [hm]
  rfl
def retR (P : Program) (G : List (Nat × List D)) (rs : List ResultVar) (Q : AE → H → Prop) (e : Exit) (ρ : Env) (h : H) : Prop :=
  match e with
  | .normal => ∃ ρ1 h1 xs h', VS ρ h ρ1 h1 ∧ RVs P G ρ1 h1 rs xs ∧ List.Sublist h' h1 ∧ Q (.ret (tupAV xs)) h'
  | .ret => ∃ ρ1 h1 xs h', VS ρ h ρ1 h1 ∧ RVs P G ρ1 h1 rs xs ∧ List.Sublist h' h1 ∧ Q (.ret (tupAV xs)) h'
  | .panic ch => Q (.pan ch) h
  | _ => False
theorem tup_rel {w : World} {I : Nat → Prop} {xs : List AV} {vs : List Value} (h : AV.rels w I xs vs) : AV.rel w I (tupAV xs) (if h : vs.toArray.size = 1 then vs.toArray[0] else .tuple vs.toArray) := by
  match xs, vs, h with
  | [], [], _ => exact ⟨[], rfl, trivial⟩
  | [x], [v], h => exact h.1
  | x :: y :: xs, u :: v :: vs, h =>
    rw [dif_neg (by simp)]
    exact ⟨_, rfl, h⟩
theorem Ok.sub {c : Cx} {I : Nat → Prop} {h h' : H} {w : World} (h1 : Ok c I h w) (hs : List.Sublist h' h) : Ok c I h' w :=
  { ent := fun e he => h1.ent e (hs.subset he), nd := h1.nd.sublist (blks_sublist hs), imm := fun b hb => ⟨(h1.imm b hb).1, fun hm => (h1.imm b hb).2 ((blks_sublist hs).subset hm)⟩,
    new := fun b hb => h1.new b ((blks_sublist hs).subset hb), inew := h1.inew, sup := h1.sup, os := h1.os, tape := h1.tape, output := h1.output, size := h1.size, keep := h1.keep, glob := h1.glob }
theorem AC_ofR {P : Program} {G : List (Nat × List D)} {f : FuncId} {fn : Func} {c : Code} {args : List AV} {h : H} {Q : AE → H → Prop} {rs : List ResultVar} (n : Nat) (hf : P.funcs[f]? = some fn) (hb : fn.body = some c) (hn : fn.ntmps = n) (hr : fn.results = rs.toArray) (ha : args.length ≤ n)
    (hj : ∀ W I, J ⟨P, ⟨W, I, blks h, G⟩, n, []⟩ c (retR P G rs Q) (argsEnv 0 args) h) : AC P G f args h Q := by
  intro I W vs h1 h2 h3 hG h4
  have hlen := AV.rels_length h4
  refine calls_of_wp hf hb ?_
  have hok : Ok ⟨W, I, blks h, G⟩ I h W :=
    { ent := h1, nd := h2, imm := h3, new := fun b hb => .inl hb, inew := fun b hb => .inl hb, sup := fun b hb => hb, os := rfl, tape := rfl, output := rfl, size := Nat.le_refl _, keep := fun _ _ _ => rfl, glob := hG }
  have hsf : SF n W I (argsEnv 0 args) { tmps := vs.toArray ++ Array.replicate (fn.ntmps - vs.toArray.size) undef, defers := [] } := by
    refine ⟨by simp [hn]; omega, fun t => ?_⟩
    have := get_argsEnv W I args vs 0 t h4
    simp only [Nat.zero_le, if_true, Nat.sub_zero] at this
    have e : (vs.toArray ++ Array.replicate (fn.ntmps - vs.toArray.size) undef).getD t undef = (vs[t]?).getD undef := by
      rw [Array.getD_eq_getD_getElem?, Array.getElem?_append]
      by_cases ht : t < vs.length
      · simp [ht]
      · simp only [List.size_toArray, ht, if_false]
        rw [List.getElem?_eq_none (by omega)]
        simp only [Array.getElem?_replicate]
        split <;> rfl
    rw [e]; exact this
  refine wp_mono (hj W I I _ W hok hsf rfl) ?_
  rintro e a w ⟨I', ρ', h', k1, k2, k3, k4⟩
  have fin : (∃ ρ1 h1 xs h'', VS ρ' h' ρ1 h1 ∧ RVs P G ρ1 h1 rs xs ∧ List.Sublist h'' h1 ∧ Q (.ret (tupAV xs)) h'') → ∃ v, (results fn a.tmps).run P w = .ok v w ∧ ACpost G W I h Q (.returned v) w := by
    rintro ⟨ρ1, hh1, xs, h'', v, hrv, hsub, hq⟩
    obtain ⟨I1, m1, m2⟩ := v _ _ _ _ _ k1 k2
    obtain ⟨us, e1, e2⟩ := mapM_results rfl m1 m2 hrv
    exact ⟨_, run_resultsR hr e1, _, h'', I1, hq, m1.sub hsub, tup_rel e2⟩
  cases e with
  | normal => obtain ⟨v, e1, e2⟩ := fin k4; exact ⟨k3, v, e1, e2⟩
  | ret => obtain ⟨v, e1, e2⟩ := fin k4; exact ⟨k3, v, e1, e2⟩
  | panic ch => exact ⟨k3, _, h', I', k4, k1, rfl⟩
  | exit _ => exact k4.elim
  | goto _ => exact k4.elim
  | outgrown => exact k4.elim
theorem retr {P : Program} {G : List (Nat × List D)} {rs : List ResultVar} {Q : AE → H → Prop} {e : Exit} {ρ ρ1 : Env} {h h1 h' : H} {xs : List AV} (v : VS ρ h ρ1 h1) (hrv : RVs P G ρ1 h1 rs xs) (he : retE e = true) (hs : List.Sublist h' h1) (hq : Q (.ret (tupAV xs)) h') : retR P G rs Q e ρ h := by
  cases e <;> first | exact ⟨ρ1, h1, xs, h', v, hrv, hs, hq⟩ | cases he
theorem retr0 {P : Program} {G : List (Nat × List D)} {rs : List ResultVar} {Q : AE → H → Prop} {e : Exit} {ρ : Env} {h h' : H} {xs : List AV} (hrv : RVs P G ρ h rs xs) (he : retE e = true) (hs : List.Sublist h' h) (hq : Q (.ret (tupAV xs)) h') : retR P G rs Q e ρ h :=
  retr (VS.of_le (Env.le_refl _)) hrv he hs hq
section
variable {P : Program} {G : List (Nat × List D)} {ρ : Env} {h : H}
theorem rv_tmp {t : Nat} {x : AV} (hx : getO ρ t = some x) : RV1 P G ρ h (.tmp t) x := fun _ I _ a w _ _ s => ⟨a.tmps.getD t undef, by have := s.2 t; rw [get_of_getO hx] at this; exact this, rfl⟩
theorem rv_cell {r T b : Nat} {T0 : TypeId} {x : AV} (hT : isAggB P T = some false) (hx : getO ρ r = some (.val (.pointer (some ⟨b, 0, none⟩)))) (hm : Ent.cells b T0 [x] ∈ h) : RV1 P G ρ h (.cell r T) x := fun _ I _ a w _ k s => by
  obtain ⟨cs, hc1, hc2⟩ := k.ent _ hm
  obtain ⟨v, hv, hrv⟩ := AV.rels_get hc2 0 x rfl
  refine ⟨v, hrv, ?_⟩
  have e1 := rel_val (s.2 r) (get_of_getO hx)
  have hcell : w.cell? ⟨b, 0, none⟩ = some v := by rw [cell_of_row w b 0 cs T0 (0, 0) hc1]; simpa using hv
  rw [Array.getD_eq_getD_getElem?] at e1
  simp [resSem, e1, asAddr, loadVar, run_isAgg hT, run_load, hcell]
theorem rv_agg {r T b : Nat} {T0 : TypeId} {vs : List AV} {z : Value} {sz eb : Nat} (hT : isAggB P T = some true) (hE : El P T z sz eb) (hx : getO ρ r = some (.val (.pointer (some ⟨b, 0, none⟩)))) (hm : Ent.cells b T0 vs ∈ h) (hn : sz = vs.length) : RV1 P G ρ h (.cell r T) (.agg vs) := fun _ I _ a w _ k s => by
  obtain ⟨i, hi, _, rfl, _⟩ := hE.get
  obtain ⟨cs, hc1, hc2⟩ := k.ent _ hm
  have hlen : cs.toList.length = vs.length := (AV.rels_length hc2).symm
  refine ⟨.agg cs.toList.toArray, ⟨_, rfl, hc2⟩, ?_⟩
  have e1 := rel_val (s.2 r) (get_of_getO hx)
  have hload := run_loadCells_list (P := P) w ⟨b, 0, none⟩ cs.toList fun j v hv => by
    rw [Addr.add_lit, Nat.zero_add, cell_of_row w b j cs T0 (0, 0) hc1]
    simpa using hv
  have hsz : cs.toList.length = i.size := by rw [hlen, hn]
  rw [hsz] at hload
  rw [Array.getD_eq_getD_getElem?] at e1
  simp [resSem, e1, asAddr, loadVar, run_isAgg hT, sizeOf, typeInfo, hi, hload]
end

/-! ### Rows that become data, wherever they are told -/
mutual
/-- What is told of the value v as it was, or as the datum d. -/
inductive Cv (v : Value) (d : D) : AV → AV → Prop where
  | same (x : AV) : Cv v d x x
  | here : Cv v d (.val v) (.d d)
  | agg {xs ys : List AV} (h : Cvs v d xs ys) : Cv v d (.agg xs) (.agg ys)
inductive Cvs (v : Value) (d : D) : List AV → List AV → Prop where
  | nil : Cvs v d [] []
  | cons {x y : AV} {xs ys : List AV} (h1 : Cv v d x y) (h2 : Cvs v d xs ys) : Cvs v d (x :: xs) (y :: ys)
end
mutual
theorem Cv.rel {v : Value} {d : D} {w : World} {I : Nat → Prop} (hr : Rel w I d v) : ∀ {x y : AV} {u : Value}, Cv v d x y → AV.rel w I x u → AV.rel w I y u
  | _, _, _, .same x, h => h
  | _, _, _, .here, h => by cases h; exact hr
  | _, _, _, .agg hc, ⟨vs, h1, h2⟩ => ⟨vs, h1, Cvs.rel hr hc h2⟩
theorem Cvs.rel {v : Value} {d : D} {w : World} {I : Nat → Prop} (hr : Rel w I d v) : ∀ {xs ys : List AV} {us : List Value}, Cvs v d xs ys → AV.rels w I xs us → AV.rels w I ys us
  | [], [], us, .nil, h => h
  | _ :: _, _ :: _, u :: us, .cons h1 h2, ⟨g1, g2⟩ => ⟨Cv.rel hr h1 g1, Cvs.rel hr h2 g2⟩
end
def CvE (v : Value) (d : D) (ρ ρ' : Env) : Prop := ∀ t, Cv v d (get ρ t) (get ρ' t)
theorem CvE.refl (v : Value) (d : D) (ρ : Env) : CvE v d ρ ρ := fun _ => .same _
theorem CvE.cons {v : Value} {d : D} {ρ ρ' : Env} {t : Nat} {x y : AV} (hx : getO ρ t = some x) (hc : Cv v d x y) (h : CvE v d ρ ρ') : CvE v d ρ ((t, y) :: ρ') := fun s => by
  simp only [get]
  cases hb : Nat.beq t s with
  | true => rw [← Nat.eq_of_beq_eq_true hb, get_of_getO hx]; exact hc
  | false => exact h s
inductive CvH (v : Value) (d : D) : H → H → Prop where
  | refl (h : H) : CvH v d h h
  | keep {e : Ent} {h h' : H} (k : CvH v d h h') : CvH v d (e :: h) (e :: h')
  | cells {b : Nat} {T : TypeId} {vs vs' : List AV} {h h' : H} (hc : Cvs v d vs vs') (k : CvH v d h h') : CvH v d (.cells b T vs :: h) (.cells b T vs' :: h')
theorem CvH.blks {v : Value} {d : D} {h h' : H} (k : CvH v d h h') : blks h' = blks h := by
  induction k with
  | refl h => rfl
  | keep k ih => rename_i e _ _; simp only [Av.blks, List.filterMap_cons] at ih ⊢; rw [ih]
  | cells hc k ih => simp only [Av.blks, List.filterMap_cons, Ent.blk] at ih ⊢; rw [ih]
theorem CvH.ent {v : Value} {d : D} {w : World} {I : Nat → Prop} (hr : Rel w I d v) {h h' : H} (k : CvH v d h h') : (∀ e ∈ h, e.rel w I) → ∀ e ∈ h', e.rel w I := by
  induction k with
  | refl h => exact fun h => h
  | keep k ih =>
    intro hh e he
    rcases List.mem_cons.1 he with rfl | he
    · exact hh _ (by simp)
    · exact ih (fun e he => hh e (by simp [he])) e he
  | cells hc k ih =>
    intro hh e he
    rcases List.mem_cons.1 he with rfl | he
    · obtain ⟨cs, h1, h2⟩ := hh _ List.mem_cons_self
      exact ⟨cs, h1, hc.rel hr h2⟩
    · exact ih (fun e he => hh e (by simp [he])) e he
theorem Ok.conv {c : Cx} {I : Nat → Prop} {h h' : H} {w : World} {v : Value} {d : D} (k : Ok c I h w) (hr : Rel w I d v) (hc : CvH v d h h') : Ok c I h' w :=
  { ent := hc.ent hr k.ent, nd := hc.blks ▸ k.nd, imm := fun b hb => hc.blks ▸ k.imm b hb, new := fun b hb => k.new b (hc.blks ▸ hb), inew := k.inew, sup := k.sup, os := k.os, tape := k.tape, output := k.output, size := k.size, keep := k.keep, glob := k.glob }
theorem SF.conv {n : Nat} {w : World} {I : Nat → Prop} {ρ ρ' : Env} {a : Act} {v : Value} {d : D} (f : SF n w I ρ a) (hr : Rel w I d v) (hc : CvE v d ρ ρ') : SF n w I ρ' a := ⟨f.1, fun t => (hc t).rel hr (f.2 t)⟩

theorem row_rel {c : Cx} {I : Nat → Prop} {w : World} {v : Value} {n : Nat} {E : TypeId} {sz : Nat} (eb : Nat) {rows : List (List D)} {h1 h2 : H} (k1 : Ok c I (h1 ++ .row v n E sz (rows.flatten.map D.av) :: h2) w) (h0 : 0 < sz) (hn : rows.length = n) (hsz : ∀ r ∈ rows, r.length = sz) (hb : n * eb ≤ 140737488355328) :
    ∃ I' : Nat → Prop, Ok c I' (h1 ++ h2) w ∧ (∀ b, I b → I' b) ∧ Rel w I' (.l sz eb rows) v := by
  obtain ⟨os, ho, hos⟩ := k1.ent (.row v n E sz (rows.flatten.map D.av)) (by simp)
  rcases ho.2 with ⟨rfl, rfl⟩ | ⟨g, cap, cur, rfl, _, hg, hnc, hcm, hcs, htake⟩
  · have : rows = [] := List.eq_nil_of_length_eq_zero hn
    subst this
    have hok : Ok c I (h1 ++ h2) w := by
      have hbe : blks (h1 ++ Ent.row (.slice none 0 0) 0 E sz (List.map D.av [].flatten) :: h2) = blks (h1 ++ h2) := by rw [blks_append, blks_append]; rfl
      exact { ent := fun e he => k1.ent e (((List.sublist_cons_self _ h2).append_left h1).subset he), nd := hbe ▸ k1.nd, imm := fun b hb => hbe ▸ k1.imm b hb, new := fun b hb => k1.new b (hbe ▸ hb), inew := k1.inew, sup := k1.sup, os := k1.os, tape := k1.tape, output := k1.output, size := k1.size, keep := k1.keep, glob := k1.glob }
    exact ⟨I, hok, fun _ h => h, .nil sz eb⟩
  · have hok := k1.release (b := g) (e := .row (.slice (some ⟨g, 0, none⟩) n cap) n E sz (rows.flatten.map D.av)) rfl
    refine ⟨_, hok, fun _ h => .inl h, ?_⟩
    subst hn
    have hcell : ∀ q x, rows.flatten[q]? = some x → ∃ c, w.cell? ((⟨g, 0, none⟩ : Addr).add q) = some c ∧ Rel w I x c := fun q x hx => by
      obtain ⟨c, hc1, hc2⟩ := AV.rels_get hos q x.av (by rw [List.getElem?_map, hx]; rfl)
      exact ⟨c, ho.cells (g := g) rfl q c hc1, D.av_rel' hc2⟩
    have hq : ∀ (j u : Nat) (r : List D) (x : D), rows[j]? = some r → r[u]? = some x → rows.flatten[j * sz + u]? = some x := fun j u r x hr hx => by
      have hu : u < sz := by
        have := (List.getElem?_eq_some_iff.1 hx).1
        rwa [hsz r (List.mem_of_getElem? hr)] at this
      rw [flatten_get h0 rows hsz, Nat.add_comm, Nat.add_mul_div_right _ _ h0, Nat.add_mul_mod_self_right, Nat.div_eq_of_lt hu, Nat.mod_eq_of_lt hu, Nat.zero_add, hr]
      exact hx
    refine .l sz eb rows ⟨g, 0, none⟩ cap (fun j u => (w.cell? ((⟨g, 0, none⟩ : Addr).add (j * sz + u))).getD undef) (.inr rfl) hnc hcm hb hsz (fun j u r x hr hx => ?_) (fun j u r x hr hx => ?_)
    · obtain ⟨c, hc1, _⟩ := hcell _ x (hq j u r x hr hx)
      simp only [hc1, Option.getD_some]
    · obtain ⟨c, hc1, hc2⟩ := hcell _ x (hq j u r x hr hx)
      simp only [hc1, Option.getD_some]
      exact hc2.mono (fun _ _ => rfl) fun _ h => .inl h
theorem cells_rel {c : Cx} {I : Nat → Prop} {w : World} {b n : Nat} {E : TypeId} {sz : Nat} (eb : Nat) {rows : List (List D)} {h1 h2 : H} (k1 : Ok c I (h1 ++ .cells b E (rows.flatten.map D.av) :: h2) w) (h0 : 0 < sz) (hn : rows.length = n) (hsz : ∀ r ∈ rows, r.length = sz) (hb : n * eb ≤ 140737488355328) (hm : n ≤ maxLen) :
    ∃ I' : Nat → Prop, Ok c I' (h1 ++ h2) w ∧ (∀ b, I b → I' b) ∧ Rel w I' (.l sz eb rows) (.slice (some ⟨b, 0, none⟩) n n) := by
  subst hn
  have hbr := bord_row (h := h1 ++ .cells b E (rows.flatten.map D.av) :: h2) (b := b) (E := E) (eb := eb) (by simp) h0 rfl rfl hsz hb hm
  refine ⟨_, k1.release (b := b) rfl, fun _ h => .inl h, ?_⟩
  obtain ⟨cs, hc1, hc2⟩ := k1.ent (.cells b E (rows.flatten.map D.av)) (by simp)
  have hcell : ∀ q x, rows.flatten[q]? = some x → ∃ c, w.cell? ((⟨b, 0, none⟩ : Addr).add q) = some c ∧ Rel w I x c := fun q x hx => by
    obtain ⟨c, hc3, hc4⟩ := AV.rels_get hc2 q x.av (by rw [List.getElem?_map, hx]; rfl)
    refine ⟨c, ?_, D.av_rel' hc4⟩
    rw [Addr.add_lit, Nat.zero_add, cell_of_row w b q cs E (0, 0) hc1]
    simpa using hc3
  have hq : ∀ (j u : Nat) (r : List D) (x : D), rows[j]? = some r → r[u]? = some x → rows.flatten[j * sz + u]? = some x := fun j u r x hr hx => by
    have hu : u < sz := by
      have := (List.getElem?_eq_some_iff.1 hx).1
      rwa [hsz r (List.mem_of_getElem? hr)] at this
    rw [flatten_get h0 rows hsz, Nat.add_comm, Nat.add_mul_div_right _ _ h0, Nat.add_mul_mod_self_right, Nat.div_eq_of_lt hu, Nat.mod_eq_of_lt hu, Nat.zero_add, hr]
    exact hx
  refine Rel.l sz eb rows ⟨b, 0, none⟩ rows.length (fun j u => (w.cell? ((⟨b, 0, none⟩ : Addr).add (j * sz + u))).getD undef) (.inr rfl) (Nat.le_refl _) hm hb hsz (fun j u r x hr hx => ?_) (fun j u r x hr hx => ?_)
  · obtain ⟨c, hc3, _⟩ := hcell _ x (hq j u r x hr hx)
    simp only [hc3, Option.getD_some]
  · obtain ⟨c, hc3, hc4⟩ := hcell _ x (hq j u r x hr hx)
    simp only [hc3, Option.getD_some]
    exact hc4.mono (fun _ _ => rfl) fun _ h => .inl h
/-- A row becomes data, wherever it is told. -/
theorem vdat {α : Type} {f : α → List D} {xs : List α} {ρ ρ' : Env} {h h1 h2 h' : H} {v : Value} {E : TypeId} {sz : Nat} (eb : Nat) (h0 : Nat.blt 0 sz = true) (hh : h = h1 ++ rowE v E sz f xs :: h2) (hsz : ∀ a, (f a).length = sz) (hb : xs.length * eb ≤ 140737488355328)
    (hρ : CvE v (.l sz eb (xs.map f)) ρ ρ') (hH : CvH v (.l sz eb (xs.map f)) (h1 ++ h2) h') : VS ρ h ρ' h' := by
  subst hh
  intro c I m a w k1 k2
  obtain ⟨I', g1, g2, g3⟩ := row_rel eb k1 (blt h0) (by simp) (fun r hr => by obtain ⟨a, _, rfl⟩ := List.mem_map.1 hr; exact hsz a) hb
  exact ⟨I', g1.conv g3 hH, (k2.wider g2).conv g3 hρ⟩
/-- The same of a row that was made whole. -/
theorem vdatC {α : Type} {f : α → List D} {g : α → AV} {xs : List α} {ρ ρ' : Env} {h h1 h2 h' : H} {b n : Nat} {E : TypeId} {sz : Nat} (eb : Nat) (h0 : Nat.blt 0 sz = true) (hh : h = h1 ++ .cells b E (xs.map g) :: h2) (hv : xs.map g = ((xs.map f).flatten).map D.av) (hn : xs.length = n) (hsz : ∀ a, (f a).length = sz) (hb : n * eb ≤ 140737488355328) (hm : n ≤ 140737488355328)
    (hρ : CvE (.slice (some ⟨b, 0, none⟩) n n) (.l sz eb (xs.map f)) ρ ρ') (hH : CvH (.slice (some ⟨b, 0, none⟩) n n) (.l sz eb (xs.map f)) (h1 ++ h2) h') : VS ρ h ρ' h' := by
  subst hh
  rw [hv]
  intro c I m a w k1 k2
  obtain ⟨I', g1, g2, g3⟩ := cells_rel (n := n) eb k1 (blt h0) (by simpa using hn) (fun r hr => by obtain ⟨a, _, rfl⟩ := List.mem_map.1 hr; exact hsz a) hb (by simp only [maxLen]; omega)
  exact ⟨I', g1.conv g3 hH, (k2.wider g2).conv g3 hρ⟩
end Go.Av
