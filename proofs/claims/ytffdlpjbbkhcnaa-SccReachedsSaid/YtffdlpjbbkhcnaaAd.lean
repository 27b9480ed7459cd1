/-
  PLAIN, NO PROGRAM: functions that defer, results that lie in variables, panics (over As, Aw).
-/
import Derived.Test.YtffdlpjbbkhcnaaAw
import Derived.Defers
import Derived.Recover
import Derived.Laws.Tables
namespace Go.Av
open Go

def lift2 (k : Kx) (Q : Exit → Env → H → List Deferred → Prop) : Exit → Act → World → Prop := fun e a w =>
  ∃ I ρ h, Ok k.c I h w ∧ SF k.n w I ρ a ∧ Q e ρ h a.defers
/-- As J; what is deferred at the end is told. -/
def J2 (k : Kx) (x : Code) (Q : Exit → Env → H → List Deferred → Prop) (ρ : Env) (h : H) : Prop :=
  ∀ I a w, Ok k.c I h w → SF k.n w I ρ a → a.defers = k.df → x.wp k.P (lift2 k Q) a w
def thenQ2 (k : Kx) (y : Code) (Q : Exit → Env → H → List Deferred → Prop) : Exit → Env → H → List Deferred → Prop
  | .normal, ρ, h, df => J2 { k with df := df } y Q ρ h
  | e, ρ, h, df => Q e ρ h df

section
variable {k : Kx} {Q2 : Exit → Env → H → List Deferred → Prop} {ρ ρ' : Env} {h h' : H}
theorem J2_of {x : Code} (hj : J k x (fun e ρ h => Q2 e ρ h k.df) ρ h) : J2 k x Q2 ρ h := fun I a w h1 h2 h3 =>
  wp_mono (hj I a w h1 h2 h3) fun _ _ _ ⟨I, ρ, h, k1, k2, k3, k4⟩ => ⟨I, ρ, h, k1, k2, by rw [k3]; exact k4⟩
theorem J2_seq {x y : Code} (hj : J2 k x (thenQ2 k y Q2) ρ h) : J2 k (.seq x y) Q2 ρ h := by
  intro I a w h1 h2 h3
  refine wp_seq (wp_mono (hj I a w h1 h2 h3) ?_)
  rintro e a w ⟨I, ρ, h, h1, h2, h4⟩
  cases e with
  | normal => exact h4 I a w h1 h2 rfl
  | _ => exact ⟨I, ρ, h, h1, h2, h4⟩
theorem J2_seq1 {x y : Code} (hj : J k x (fun e ρ h => thenQ2 k y Q2 e ρ h k.df) ρ h) : J2 k (.seq x y) Q2 ρ h := J2_seq (J2_of hj)
theorem tq2_normal {y : Code} {df : List Deferred} (hj : J2 { k with df := df } y Q2 ρ h) : thenQ2 k y Q2 .normal ρ h df := hj
theorem tq2_ret {y : Code} {df : List Deferred} (hj : Q2 .ret ρ h df) : thenQ2 k y Q2 .ret ρ h df := hj
theorem tq2_panic {y : Code} {df : List Deferred} {ch : List PanicEntry} (hj : Q2 (.panic ch) ρ h df) : thenQ2 k y Q2 (.panic ch) ρ h df := hj

/-- defer func() {..}(). -/
theorem J2_defer {id fid : Nat} {d : Nat} {caps : Array Operand} {vs : List Value} {ty ty' : TypeId} {pos pos' : String} {after after' : Array Edge} (hc : caps.toList.map (ev ρ) = vs.map AV.val) (hd : Nat.blt d k.n = true)
    (hq : Q2 .normal ((d, .any) :: ρ) h ({ target := .fn (.func fid) vs.toArray, args := #[] } :: k.df)) :
    J2 k (.region id #[⟨some d, .makeFunc (.func fid) #[] caps, ty, pos, after, none⟩, ⟨none, .defer { callee := .value (.tmp d), args := #[], argTypes := #[] }, ty', pos', after', none⟩] false) Q2 ρ h := by
  intro I a w h1 h2 h3
  refine wp_region_lit ?_
  have hvs : caps.map a.eval = vs.toArray := by
    apply Array.ext'
    have hr := rels_evs h2 caps.toList
    rw [hc] at hr
    have : ∀ (us : List Value) (ws : List Value), AV.rels w I (us.map AV.val) ws → ws = us := by
      intro us
      induction us with
      | nil => intro ws hw; cases ws with
        | nil => rfl
        | cons _ _ => exact hw.elim
      | cons u us ih => intro ws hw; cases ws with
        | nil => exact hw.elim
        | cons v ws => obtain ⟨e1, e2⟩ := hw; rw [ih ws e2]; cases e1; rfl
    simpa using this _ _ hr
  have hdn : d < a.tmps.size := by rw [h2.1]; exact blt hd
  refine wpList_plain rfl fun K hK => ?_
  unfold Oper.wp
  have e1 : (execOp a.eval ⟨some d, .makeFunc (.func fid) #[] caps, ty, pos, after, none⟩).run k.P w = .ok (.value (.func (.func fid) #[] vs.toArray)) w := by
    simp [execOp, Instr.makeFunc, hvs]
  rw [e1]
  refine hK _ _ (wpList_plain rfl fun K hK => ?_)
  unfold Oper.wp
  have e2 : (execOp (a.put (some d) (.func (.func fid) #[] vs.toArray)).eval ⟨none, .defer { callee := .value (.tmp d), args := #[], argTypes := #[] }, ty', pos', after', none⟩).run k.P w = .ok (.defer { target := .fn (.func fid) vs.toArray, args := #[] }) w := by
    simp [execOp, resolve, Act.put, Act.eval, Array.getD, hdn, Deferred.ofValue]
  rw [e2]
  refine hK _ _ ⟨I, (d, .any) :: ρ, h, h1, ?_, ?_⟩
  · exact (h2.put (dst := some d) (fun t ht => by cases ht; exact blt hd) (r := .any) trivial)
  · have : a.defers = k.df := h3
    simpa [Act.put, this] using hq
end

def modeOf : Exit → Option FrameMode
  | .normal => some .returning
  | .ret => some .returning
  | .panic ch => some (.panicking ch)
  | _ => none

/-- What happens behind the body: the deferred calls, the results. -/
def LQ (k : Kx) (fn : Func) (R : Ending → World → Prop) (u : Option FrameMode) (ρ : Env) (h : H) (df : List Deferred) : Prop :=
  ∀ I a w, Ok k.c I h w → SF k.n w I ρ a → ∃ m, u = some m ∧ Leaves k.P fn a.tmps R df m w

theorem AC_ofD {P : Program} {G : List (Nat × List D)} {f : FuncId} {fn : Func} {c : Code} {args : List AV} {h : H} {Q : AE → H → Prop} (n : Nat) (hf : P.funcs[f]? = some fn) (hb : fn.body = some c) (hn : fn.ntmps = n) (ha : args.length ≤ n)
    (hj : ∀ W I, J2 ⟨P, ⟨W, I, blks h, G⟩, n, []⟩ c (fun e ρ h' df => LQ ⟨P, ⟨W, I, blks h, G⟩, n, []⟩ fn (ACpost G W I h Q) (modeOf e) ρ h' df) (argsEnv 0 args) h) : AC P G f args h Q := by
  intro I W vs h1 h2 h3 hG h4
  have hlen := AV.rels_length h4
  refine calls_of_wp_defers hf hb ?_
  have hok : Ok ⟨W, I, blks h, G⟩ I h W :=
    { ent := h1, nd := h2, imm := h3, new := fun b hb => .inl hb, inew := fun b hb => .inl hb, sup := fun b hb => hb, os := rfl, tape := rfl, output := rfl, size := Nat.le_refl _, keep := fun _ _ _ => rfl, glob := hG }
  have hsf : SF n W I (argsEnv 0 args) { tmps := vs.toArray ++ Array.replicate (fn.ntmps - vs.toArray.size) undef, defers := [] } := by
    refine ⟨by simp [hn]; omega, fun t => ?_⟩
    have := get_argsEnv W I args vs 0 t h4
    simp only [Nat.zero_le, if_true, Nat.sub_zero] at this
    have e : (vs.toArray ++ Array.replicate (fn.ntmps - vs.toArray.size) undef).getD t undef = (vs[t]?).getD undef := by
      rw [Array.getD_eq_getD_getElem?, Array.getElem?_append]
      by_cases ht : t < vs.length
      · simp [ht]
      · simp only [List.size_toArray, ht, if_false]
        rw [List.getElem?_eq_none (by omega)]
        simp only [Array.getElem?_replicate]
        split <;> rfl
    rw [e]; exact this
  refine wp_mono (hj W I I _ W hok hsf rfl) ?_
  rintro e a w ⟨I', ρ', h', k1, k2, k4⟩
  obtain ⟨m, hm, hl⟩ := k4 I' a w k1 k2
  cases e with
  | normal => cases hm; exact hl
  | ret => cases hm; exact hl
  | panic ch => cases hm; exact hl
  | exit _ => cases hm
  | goto _ => cases hm
  | outgrown => cases hm

/-- Two results that lie in variables of their own. -/
theorem results_cells2 {P : Program} {fn : Func} {r1 r2 t1 t2 b1 b2 : Nat} {T1 T2 : TypeId} {z1 z2 : Nat × Nat} {v1 v2 : Value} {tmps : Array Value} {w : World} (hr : fn.results = #[.cell r1 t1, .cell r2 t2]) (a1 : isAggB P t1 = some false) (a2 : isAggB P t2 = some false)
    (e1 : tmps.getD r1 undef = .pointer (some ⟨b1, 0, none⟩)) (e2 : tmps.getD r2 undef = .pointer (some ⟨b2, 0, none⟩)) (c1 : w.heap[b1]? = some (.cells #[v1] T1 z1)) (c2 : w.heap[b2]? = some (.cells #[v2] T2 z2)) :
    (results fn tmps).run P w = .ok (.tuple #[v1, v2]) w := by
  have l1 : w.cell? ⟨b1, 0, none⟩ = some v1 := by rw [cell_of_row w b1 0 _ _ _ c1]; rfl
  have l2 : w.cell? ⟨b2, 0, none⟩ = some v2 := by rw [cell_of_row w b2 0 _ _ _ c2]; rfl
  rw [Array.getD_eq_getD_getElem?] at e1 e2
  unfold results
  rw [hr]
  simp [e1, e2, loadVar, run_isAgg a1, run_isAgg a2, run_load, l1, l2, asAddr]

theorem LQ_cells2 {k : Kx} {fn : Func} {Q : AE → H → Prop} {ρ : Env} {h h0 : H} {r1 r2 t1 t2 b1 b2 : Nat} {T1 T2 : TypeId} {x1 x2 : AV} (hr : fn.results = #[.cell r1 t1, .cell r2 t2]) (a1 : isAggB k.P t1 = some false) (a2 : isAggB k.P t2 = some false)
    (e1 : get ρ r1 = .val (.pointer (some ⟨b1, 0, none⟩))) (e2 : get ρ r2 = .val (.pointer (some ⟨b2, 0, none⟩))) (c1 : Ent.cells b1 T1 [x1] ∈ h) (c2 : Ent.cells b2 T2 [x2] ∈ h) (hE : k.c.E = blks h0) {h' : H} (hs : List.Sublist h' h) {y1 y2 : AV} (l1 : AV.le x1 y1) (l2 : AV.le x2 y2) (hq : Q (.ret (.tup [y1, y2])) h') :
    LQ k fn (ACpost k.c.G k.c.W k.c.I0 h0 Q) (some .returning) ρ h [] := by
  intro I a w h1 h2
  refine ⟨_, rfl, ?_⟩
  obtain ⟨cs1, d1, f1⟩ := h1.ent _ c1
  obtain ⟨cs2, d2, f2⟩ := h1.ent _ c2
  obtain ⟨v1, hv1, g1⟩ : ∃ v1, cs1 = #[v1] ∧ AV.rel w I x1 v1 := by
    obtain ⟨l⟩ := cs1
    match l, f1 with
    | [v], ⟨g, _⟩ => exact ⟨v, rfl, g⟩
    | _ :: _ :: _, ⟨_, g⟩ => exact g.elim
  obtain ⟨v2, hv2, g2⟩ : ∃ v2, cs2 = #[v2] ∧ AV.rel w I x2 v2 := by
    obtain ⟨l⟩ := cs2
    match l, f2 with
    | [v], ⟨g, _⟩ => exact ⟨v, rfl, g⟩
    | _ :: _ :: _, ⟨_, g⟩ => exact g.elim
  subst hv1; subst hv2
  refine ⟨_, results_cells2 hr a1 a2 (rel_val (h2.2 r1) e1) (rel_val (h2.2 r2) e2) d1 d2, _, h', I, hq, ?_, ⟨_, rfl, l1 _ _ _ g1, l2 _ _ _ g2, trivial⟩⟩
  have hc : k.c = ⟨k.c.W, k.c.I0, blks h0, k.c.G⟩ := by rw [← hE]
  rw [← hc]
  exact
  { ent := fun e he => h1.ent e (hs.subset he), nd := h1.nd.sublist (blks_sublist hs), imm := fun b hb => ⟨(h1.imm b hb).1, fun hm => (h1.imm b hb).2 ((blks_sublist hs).subset hm)⟩,
    new := fun b hb => h1.new b ((blks_sublist hs).subset hb), inew := h1.inew, sup := h1.sup, os := h1.os, tape := h1.tape, output := h1.output, size := h1.size, keep := h1.keep, glob := h1.glob }

/-- A deferred function's contract. -/
def CD (P : Program) (f : FuncId) (args : Array Value) (u : FrameMode) (h h' : H) (u' : FrameMode) : Prop :=
  ∀ c I w, Ok c I h w → CallsD P f args u w fun e v w' => e = .returned (.tuple #[]) ∧ v = u' ∧ Ok c I h' w' ∧ ∀ b, I b → w'.heap[b]? = w.heap[b]?

theorem LQ_defer {k : Kx} {fn : Func} {R : Ending → World → Prop} {u u' m : FrameMode} {ρ : Env} {h h' : H} {f : FuncId} {vs : Array Value} {ds : List Deferred} (hu : u ≠ .run) (hcal : Cal k.P f) (hcd : CD k.P f vs u h h' u') (hm : settle u' = m)
    (hn : LQ k fn R (some m) ρ h' ds) : LQ k fn R (some u) ρ h ({ target := .fn (.func f) vs, args := #[] } :: ds) := by
  intro I a w h1 h2
  refine ⟨u, rfl, ?_⟩
  refine leaves_cons (f := f) (args := vs) hu ?_ ((hcd k.c I w h1).mono ?_)
  · have := hcal vs w
    simpa [invoke] using this
  · rintro e v w' ⟨rfl, rfl, k1, k2⟩
    obtain ⟨m', hm', hl⟩ := hn I a w' k1 (h2.mono k2 fun _ hb => hb)
    cases hm'
    dsimp only
    rw [hm]
    exact hl
section
variable {k : Kx} {Q : Exit → Env → H → Prop} {ρ ρ' : Env} {h h' : H} {ops : Array Oper} {l : List Oper} {dst : Option Tmp} {ty : TypeId} {pos : String} {after : Array Edge} {g : Option (Nat × Bool)}
theorem JL_panic {x : Operand} {T : TypeId} {v : Value} (hx : ev ρ x = .val (.iface T v)) (hq : Q (.panic [{ v := .iface T v, recovered := false }]) ρ h) : JL k ops (⟨dst, .panic x, ty, pos, after, none⟩ :: l) Q ρ h := by
  intro I a w h1 h2 h3
  refine wpList_plain rfl fun K hK => ?_
  unfold Oper.wp
  have e1 := rel_val (h2.ev x) hx
  have : (execOp a.eval ⟨dst, .panic x, ty, pos, after, none⟩).run k.P w = .halt (.panic (.iface T v)) w := by
    have hp : (Instr.panic (.iface T v)).run k.P w = .halt (.panic (.iface T v)) w := rfl
    simp [execOp, e1, hp]
  rw [this]
  exact ⟨I, ρ, h, h1, h2, h3, hq⟩
theorem jpan {x : Operand} {T : TypeId} {v : Value} (hx : evO ρ x = some (.val (.iface T v))) (hq : Q (.panic [{ v := .iface T v, recovered := false }]) ρ h) : JL k ops (⟨dst, .panic x, ty, pos, after, none⟩ :: l) Q ρ h := JL_panic (ev_of_evO hx) hq
/-- A row that the call made, told as data from now on. -/
theorem VS.freezeCells {b n : Nat} {E : TypeId} {sz eb : Nat} {rows : List (List D)} {vs : List AV} {h1 h2 : H} {t : Nat} (h0 : 0 < sz) (ht : get ρ t = .val (.slice (some ⟨b, 0, none⟩) n n)) (hh : h = h1 ++ .cells b E vs :: h2) (hv : vs = rows.flatten.map D.av) (hn : rows.length = n) (hsz : ∀ r ∈ rows, r.length = sz) (hb : n * eb ≤ 140737488355328) (hm : n ≤ maxLen) :
    VS ρ h ((t, .d (.l sz eb rows)) :: ρ) (h1 ++ h2) := by
  subst hh; subst hv; subst hn
  intro c I m a w k1 k2
  obtain ⟨cs, hc1, hc2⟩ := k1.ent (.cells b E (rows.flatten.map D.av)) (by simp)
  refine ⟨_, k1.release rfl, ?_⟩
  have hf := k2.wider (I' := fun x => I x ∨ x = b) fun _ h => .inl h
  refine ⟨hf.1, fun s => ?_⟩
  simp only [get]
  cases hb' : Nat.beq t s with
  | false => exact hf.2 s
  | true =>
    have := Nat.eq_of_beq_eq_true hb'
    subst this
    have hv := rel_val (k2.2 t) ht
    simp only [cond_true, hv]
    have hcell : ∀ q x, rows.flatten[q]? = some x → ∃ c, w.cell? ((⟨b, 0, none⟩ : Addr).add q) = some c ∧ Rel w I x c := fun q x hx => by
      obtain ⟨c, hc3, hc4⟩ := AV.rels_get hc2 q x.av (by rw [List.getElem?_map, hx]; rfl)
      refine ⟨c, ?_, D.av_rel' hc4⟩
      rw [Addr.add_lit, Nat.zero_add, cell_of_row w b q cs E (0, 0) hc1]
      simpa using hc3
    have hq : ∀ (j u : Nat) (r : List D) (x : D), rows[j]? = some r → r[u]? = some x → rows.flatten[j * sz + u]? = some x := fun j u r x hr hx => by
      have hu : u < sz := by
        have := (List.getElem?_eq_some_iff.1 hx).1
        rwa [hsz r (List.mem_of_getElem? hr)] at this
      rw [flatten_get h0 rows hsz, Nat.add_comm, Nat.add_mul_div_right _ _ h0, Nat.add_mul_mod_self_right, Nat.div_eq_of_lt hu, Nat.mod_eq_of_lt hu, Nat.zero_add, hr]
      exact hx
    refine Rel.l sz eb rows ⟨b, 0, none⟩ rows.length (fun j u => (w.cell? ((⟨b, 0, none⟩ : Addr).add (j * sz + u))).getD undef) (.inr rfl) (Nat.le_refl _) hm hb hsz (fun j u r x hr hx => ?_) (fun j u r x hr hx => ?_)
    · obtain ⟨c, hc3, _⟩ := hcell _ x (hq j u r x hr hx)
      simp only [hc3, Option.getD_some]
    · obtain ⟨c, hc3, hc4⟩ := hcell _ x (hq j u r x hr hx)
      simp only [hc3, Option.getD_some]
      exact hc4.mono (fun _ _ => rfl) fun _ h => .inl h
end

/-! ### Structs of two cells; own cells -/
def Bl2 (P : Program) (t : TypeId) : Prop :=
  (match P.info? t, P.underlying t with
  | some it, some (.struct fields) =>
    match it.zero, fields.toList.mapM (fun f => (P.info? f.type).map fun i => (f.offset, i.size)) with
    | some z, some places => decide (z.cells.size = 2) && decide (places = [(0, 1), (1, 1)])
    | _, _ => false
  | _, _ => false) = true
theorem Bl2.built {P : Program} {t : TypeId} (h : Bl2 P t) {u v : Value} (hu : u.oneCell' = true) (hv : v.oneCell' = true) : P.built t [(0, u), (1, v)] = some #[u, v] := by
  unfold Bl2 at h
  unfold Program.built
  cases h1 : P.info? t with
  | none => rw [h1] at h; cases h
  | some it =>
    cases h2 : P.underlying t with
    | none => rw [h1, h2] at h; cases h
    | some d =>
      cases d with
      | struct fields =>
        rw [h1, h2] at h
        dsimp only at h ⊢
        cases h3 : it.zero with
        | none => rw [h3] at h; cases h
        | some z =>
          cases h4 : fields.toList.mapM (fun f => (P.info? f.type).map fun i => (f.offset, i.size)) with
          | none => rw [h3, h4] at h; cases h
          | some places =>
            rw [h3, h4] at h
            simp only [Bool.and_eq_true, decide_eq_true_eq] at h
            obtain ⟨h5, rfl⟩ := h
            dsimp only
            obtain ⟨l, hl⟩ : ∃ l, z.cells = l := ⟨_, rfl⟩
            rw [hl] at h5 ⊢
            obtain ⟨l⟩ := l
            match l, h5 with
            | [a, b], _ => simp [Instr.fill, cells_one hu, cells_one hv]
      | _ => rw [h1, h2] at h; cases h
section
variable {P : Program} {G : List (Nat × List D)} {ρ : Env} {h : H} {dst : Option Tmp} {ty : TypeId} {pos : String} {after : Array Edge} {g : Option (Nat × Bool)}
theorem pure_build2 {T : TypeId} {x y : Operand} {r s : AV} (hT : Bl2 P T) (hx : evO ρ x = some r) (hy : evO ρ y = some s) (hr : r.flat = true) (hs : s.flat = true) : Pure P G ⟨dst, .build T #[(0, x), (1, y)], ty, pos, after, g⟩ ρ h (.agg [r, s]) :=
  pure_free fun w I _ a k => by
    have e1 := rel_as (k.ev x) (ev_of_evO hx)
    have e2 := rel_as (k.ev y) (ev_of_evO hy)
    refine ⟨.agg #[a.eval x, a.eval y], ⟨[a.eval x, a.eval y], rfl, e1, e2, trivial⟩, fun w' => ?_⟩
    have := run_build (P := P) w' T #[(0, a.eval x), (1, a.eval y)] #[a.eval x, a.eval y] (hT.built (flat_rel hr e1) (flat_rel hs e2))
    simp [execOp, this]
theorem pu_field_cells {S : TypeId} {x : Operand} {f b off fo : Nat} (hF : Fld P S f fo) (hx : evO ρ x = some (.val (.pointer (some ⟨b, off, none⟩)))) : Pure P G ⟨dst, .fieldAddr S x f, ty, pos, after, g⟩ ρ h (.val (.pointer (some ⟨b, off + fo, none⟩))) := pure_fieldAddr_cells hF (ev_of_evO hx)
theorem pu_load_cells {T T0 : TypeId} {x : Operand} {b off : Nat} {vs : List AV} {r : AV} (hT : isAggB P T = some false) (hx : evO ρ x = some (.val (.pointer (some ⟨b, off, none⟩)))) (hh : Ent.cells b T0 vs ∈ h) (hr : vs[off]? = some r) : Pure P G ⟨dst, .load T x, ty, pos, after, g⟩ ρ h r := pure_load_cells hT (ev_of_evO hx) hh hr
theorem pu_nilCheck {x : Operand} {ad : Addr} (hx : evO ρ x = some (.val (.pointer (some ad)))) : Pure P G ⟨dst, .nilCheck x, ty, pos, after, g⟩ ρ h (.val (.pointer (some ad))) := pure_nilCheck (ev_of_evO hx)
theorem pu_nilCheck_pd {x : Operand} {cs : List D} (hx : evO ρ x = some (.pd cs)) : Pure P G ⟨dst, .nilCheck x, ty, pos, after, g⟩ ρ h (.pd cs) := pure_nilCheck_pd (ev_of_evO hx)
def NotIf (P : Program) (T : TypeId) : Prop := ∃ d, P.underlying T = some d ∧ ∀ m, d ≠ .interface m
theorem pu_iface {T : TypeId} {x : Operand} {v : Value} (hT : NotIf P T) (hx : evO ρ x = some (.val v)) : Pure P G ⟨dst, .makeInterface T x, ty, pos, after, g⟩ ρ h (.val (.iface T v)) := pure_makeInterface hT (ev_of_evO hx)
end
section
variable {k : Kx} {Q : Exit → Env → H → Prop} {ρ ρ' : Env} {h h1 h2 : H} {ops : Array Oper} {l : List Oper} {dst : Option Tmp} {ty : TypeId} {pos : String} {after : Array Edge} {g : Option (Nat × Bool)}
/-- A store into a variable of one cell. -/
theorem js_one {T T0 : TypeId} {x y : Operand} {b : Nat} {r r0 : AV} {z : Value} {eb : Nat} (hx : evO ρ x = some (.val (.pointer (some ⟨b, 0, none⟩)))) (hy : evO ρ y = some r) (hs : r.flat = true) (hE : El k.P T z 1 eb) (hh : h = h1 ++ .cells b T0 [r0] :: h2)
    (hj : JL k ops l Q ρ (h1 ++ .cells b T0 [r] :: h2)) : JL k ops (⟨none, .store T x y, ty, pos, after, none⟩ :: l) Q ρ h := by
  have hcl : r.cl = [r] := by cases r <;> first | rfl | cases hs
  have hst : r.stor = true := by cases r <;> first | exact hs | cases hs
  refine JL_store (off := 0) (r := r) (vs := [r0]) (ev_of_evO hx) (ev_of_evO hy) hst hE (by rw [hcl]; rfl) hh (by rw [hcl]; simp) ?_
  rw [hcl, setAt_one _ _ _ (by simp)]
  exact hj
/-- A store into a row of numbers. -/
theorem js_int {T T0 : TypeId} {x y : Operand} {b off : Nat} {n : Int} {es : List Int} {z : Value} {eb : Nat} (hx : evO ρ x = some (.val (.pointer (some ⟨b, off, none⟩)))) (hy : evO ρ y = some (.int n)) (hE : El k.P T z 1 eb) (hh : h = h1 ++ .cells b T0 (es.map AV.int) :: h2) (hl : off < es.length)
    (hj : JL k ops l Q ρ (h1 ++ .cells b T0 ((es.set off n).map AV.int) :: h2)) : JL k ops (⟨none, .store T x y, ty, pos, after, none⟩ :: l) Q ρ h := by
  refine JL_store (off := off) (r := .int n) (vs := es.map AV.int) (ev_of_evO hx) (ev_of_evO hy) rfl hE rfl hh (by simp [AV.cl]; omega) ?_
  have : setAt (es.map AV.int) off (AV.int n).cl = (es.set off n).map AV.int := by
    rw [show (AV.int n).cl = [AV.int n] from rfl, setAt_one _ _ _ (by simpa using hl), List.map_set]
  rw [this]
  exact hj
end
theorem setCell_other (w : World) (g x : Nat) (v : Value) (hx : x ≠ g) : (w.setCell ⟨g, 0, none⟩ v).heap[x]? = w.heap[x]? := by
  simp only [World.setCell, Array.getElem?_modify]
  rw [if_neg (fun e => hx e.symm)]
theorem Ok.set1 {c : Cx} {I : Nat → Prop} {h1 h2 : H} {b : Nat} {T : TypeId} {x : AV} {v : Value} {w : World} (k : Ok c I (h1 ++ .cells b T [x] :: h2) w) : Ok c I (h1 ++ .cells b T [.val v] :: h2) (w.setCell ⟨b, 0, none⟩ v) ∧ ∀ x, I x → (w.setCell ⟨b, 0, none⟩ v).heap[x]? = w.heap[x]? := by
  obtain ⟨cs, d1, f1⟩ := k.ent (.cells b T [x]) (by simp)
  obtain ⟨u, rfl⟩ : ∃ u, cs = #[u] := by
    obtain ⟨l⟩ := cs
    match l, f1 with
    | [v], _ => exact ⟨v, rfl⟩
    | _ :: _ :: _, ⟨_, g⟩ => exact g.elim
  refine k.write (e := .cells b T [x]) (e' := .cells b T [.val v]) (b := b) rfl rfl rfl rfl rfl (by simp [World.setCell]) (fun y hy => setCell_other w b y v hy) ⟨#[v], ?_, rfl, trivial⟩
  simp only [World.setCell, Array.getElem?_modify, if_true]
  rw [d1]; rfl
theorem Ent.cells_one {w : World} {I : Nat → Prop} {b : Nat} {T : TypeId} {x : AV} (h : Ent.rel w I (.cells b T [x])) : ∃ u, w.heap[b]? = some (.cells #[u] T (0, 0)) := by
  obtain ⟨cs, d1, f1⟩ := h
  obtain ⟨l⟩ := cs
  match l, f1 with
  | [v], _ => exact ⟨v, d1⟩
  | _ :: _ :: _, ⟨_, g⟩ => exact g.elim
section
variable {k : Kx} {Q : Exit → Env → H → Prop} {ρ : Env} {h hc hr : H} {ops : Array Oper} {l : List Oper} {d : Nat} {dst : Option Tmp} {ty : TypeId} {pos : String} {after : Array Edge}
/-- A call that is handed all that the caller writes on. -/
theorem callA {f : FuncId} {xs : Array Operand} {ats : Array TypeId} {args : List AV} {R : AE → H → Prop} (hargs : evsO ρ xs.toList = some args) (hcal : Cal k.P f) (hac : AC k.P k.c.G f args h R) (hd : Nat.blt d k.n = true)
    (hret : ∀ r h', R (.ret r) h' → JL k ops l Q ((d, r) :: ρ) h') (hpan : ∀ ch h', R (.pan ch) h' → Q (.panic ch) ρ h') :
    JL k ops (⟨some d, .call { callee := .value (.func f), args := xs, argTypes := ats }, ty, pos, after, none⟩ :: l) Q ρ h :=
  callw (hc := h) (hr := []) hargs hcal (List.append_nil h).symm hac hd (fun r h' hq => by rw [List.append_nil]; exact hret r h' hq) (fun ch h' hq => by rw [List.append_nil]; exact hpan ch h' hq)
end
section
variable {P : Program} {G : List (Nat × List D)} {ρ : Env} {h : H} {dst : Option Tmp} {ty : TypeId} {pos : String} {after : Array Edge} {g : Option (Nat × Bool)}
theorem pu_index_cells {T E : TypeId} {x y : Operand} {b len cap : Nat} {n : Int} {sz eb : Nat} {z : Value} (hx : evO ρ x = some (.val (.slice (some ⟨b, 0, none⟩) len cap))) (hT : P.underlying T = some (.slice E)) (hE : El P E z sz eb)
    (hy : ev ρ y = .int n) (h0 : 0 ≤ n) (h1 : n < len) : Pure P G ⟨dst, .indexAddr T x y, ty, pos, after, g⟩ ρ h (.val (.pointer (some ⟨b, n.toNat * sz, none⟩))) := pure_indexAddr_cells hT hE (ev_of_evO hx) hy h0 h1
end
theorem LQ_vs {k : Kx} {fn : Func} {R : Ending → World → Prop} {u : Option FrameMode} {ρ ρ' : Env} {h h' : H} {df : List Deferred} (v : VS ρ h ρ' h') (hl : LQ k fn R u ρ' h' df) : LQ k fn R u ρ h df :=
  fun I a w h1 h2 => let ⟨I', k1, k2⟩ := v k.c I k.n a w h1 h2; hl I' a w k1 k2
section
variable {k : Kx} {Q : Exit → Env → H → Prop} {ρ : Env} {h : H} {ops : Array Oper} {l : List Oper} {d : Nat} {dst : Option Tmp} {ty : TypeId} {pos : String} {after : Array Edge}
theorem jalloc1 {T : TypeId} {z : Value} {eb : Nat} (hz : El k.P T z 1 eb) (h1 : z.oneCell' = true) (hd : Nat.blt d k.n = true)
    (hj : ∀ b, JL k ops l Q ((d, .val (.pointer (some ⟨b, 0, none⟩))) :: ρ) (.cells b T [.val z] :: h)) : JL k ops (⟨some d, .alloc T, ty, pos, after, none⟩ :: l) Q ρ h :=
  JL_alloc hz (fun t ht => by cases ht; exact blt hd) fun b => by rw [cells_one h1]; exact hj b
theorem jbox {T : TypeId} {x : Operand} {cs : List AV} (hx : evO ρ x = some (.agg cs)) (hs : cs.all AV.flat = true) (hd : Nat.blt d k.n = true)
    (hj : ∀ b, JL k ops l Q ((d, .val (.pointer (some ⟨b, 0, none⟩))) :: ρ) (.cells b T cs :: h)) : JL k ops (⟨some d, .box T x, ty, pos, after, none⟩ :: l) Q ρ h :=
  JL_box (ev_of_evO hx) hs (fun t ht => by cases ht; exact blt hd) hj
theorem jmake_int {T E : TypeId} {x : Operand} {n : Nat} {eb : Nat} (hx : evO ρ x = some (.int n)) (hT : k.P.underlying T = some (.slice E)) (hz : El k.P E (.int .i64 0) 1 eb) (hb : eb * n ≤ 281474976710656) (hm : n ≤ 9223372036854775807) (hd : Nat.blt d k.n = true)
    (hj : ∀ b, JL k ops l Q ((d, .val (.slice (some ⟨b, 0, none⟩) n n)) :: ρ) (.cells b E ((List.replicate n 0).map AV.int) :: h)) : JL k ops (⟨some d, .makeSlice T x x, ty, pos, after, none⟩ :: l) Q ρ h :=
  JL_make hT hz rfl (ev_of_evO hx) hb hm (fun t ht => by cases ht; exact blt hd) fun b => by have := hj b; rwa [List.map_replicate] at this
end
end Go.Av
