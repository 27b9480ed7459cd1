/-
  PLAIN, NO PROGRAM: contracts of functions, calls, views, regions whose order is open (over Av, Ap).
-/
import Derived.Test.YtffdlpjbbkhcnaaAp
import Derived.Test.YtffdlpjbbkhcnaaAq
namespace Go.Av
open Go

/-- How a call ends, told as data. -/
inductive AE where
  | ret (r : AV)
  | pan (ch : List PanicEntry)
def AE.rel (w : World) (I : Nat → Prop) : AE → Ending → Prop
  | .ret r, .returned v => AV.rel w I r v
  | .pan ch, .panicked ch' => ch' = ch
  | _, _ => False

def ACpost (G : List (Nat × List D)) (W : World) (I : Nat → Prop) (h : H) (Q : AE → H → Prop) (e : Ending) (w' : World) : Prop :=
  ∃ r h' I', Q r h' ∧ Ok ⟨W, I, blks h, G⟩ I' h' w' ∧ AE.rel w' I' r e

/-- The contract of a function: handed these (and the entries h to write on), it ends so. -/
def AC (P : Program) (G : List (Nat × List D)) (f : FuncId) (args : List AV) (h : H) (Q : AE → H → Prop) : Prop :=
  ∀ (I : Nat → Prop) (W : World) (vs : List Value), (∀ e ∈ h, e.rel W I) → (blks h).Nodup → (∀ b, I b → b < W.heap.size ∧ b ∉ blks h) → (∀ q ∈ G, PD W I q.2 ⟨q.1, 0, none⟩) → AV.rels W I args vs →
    Calls P f vs.toArray W (ACpost G W I h Q)

/-- It hands back this, and writes on nothing. -/
abbrev ACr (P : Program) (G : List (Nat × List D)) (f : FuncId) (args : List AV) (r : AV) : Prop := AC P G f args [] fun e h => e = .ret r ∧ h = []

theorem AC.mono {P : Program} {G : List (Nat × List D)} {f : FuncId} {args : List AV} {h : H} {Q Q' : AE → H → Prop} (hc : AC P G f args h Q) (hq : ∀ e h, Q e h → Q' e h) : AC P G f args h Q' :=
  fun I W vs h1 h2 h3 h4 h5 => (hc I W vs h1 h2 h3 h4 h5).mono fun _ _ ⟨r, h', I', q, rest⟩ => ⟨r, h', I', hq _ _ q, rest⟩

def argsEnv : Nat → List AV → Env
  | _, [] => []
  | i, a :: r => (i, a) :: argsEnv (i + 1) r

theorem get_argsEnv (w : World) (I : Nat → Prop) : ∀ (args : List AV) (vs : List Value) (i t : Nat), AV.rels w I args vs → AV.rel w I (get (argsEnv i args) t) (if i ≤ t then (vs[t - i]?).getD undef else undef)
  | [], [], i, t, _ => trivial
  | a :: as, v :: vs, i, t, ⟨h1, h2⟩ => by
    simp only [argsEnv, get]
    cases hb : Nat.beq i t with
    | true =>
      have := Nat.eq_of_beq_eq_true hb
      subst this
      simpa using h1
    | false =>
      have hne : i ≠ t := fun e => by subst e; simp at hb
      have ih := get_argsEnv w I as vs (i + 1) t h2
      simp only [cond_false]
      by_cases hle : i ≤ t
      · rw [if_pos hle]
        rw [if_pos (by omega)] at ih
        have : t - i = (t - (i + 1)) + 1 := by omega
        rw [this]; simpa using ih
      · rw [if_neg hle]
        rw [if_neg (by omega)] at ih
        exact ih

def resAV (ρ : Env) : List Tmp → AV
  | [t] => get ρ t
  | ts => .tup (ts.map (get ρ))

theorem rels_map_get {n : Nat} {w : World} {I : Nat → Prop} {ρ : Env} {a : Act} (f : SF n w I ρ a) : ∀ ts : List Tmp, AV.rels w I (ts.map (get ρ)) (ts.map fun t => a.tmps.getD t undef)
  | [] => trivial
  | t :: ts => ⟨f.2 t, rels_map_get f ts⟩

def resV (tmps : Array Value) : List Tmp → Value
  | [t] => tmps.getD t undef
  | ts => .tuple (ts.map fun t => tmps.getD t undef).toArray

theorem run_results (P : Program) (fn : Func) (ts : List Tmp) (h : fn.results = (ts.map ResultVar.tmp).toArray) (tmps : Array Value) (w : World) : (results fn tmps).run P w = .ok (resV tmps ts) w := by
  have key : ∀ (F : ResultVar → Sem Value) (_ : ∀ t, F (.tmp t) = pure (tmps.getD t undef)) (ts : List Tmp) (w : World), (List.mapM F (ts.map ResultVar.tmp)).run P w = .ok (ts.map fun t => tmps.getD t undef) w := by
    intro F hF ts
    induction ts with
    | nil => intro w; rfl
    | cons t ts ih =>
      intro w
      rw [List.map_cons, List.mapM_cons]
      simp only [Sem.run_bind, Sem.run_pure, Result.andThen_ok, ih, List.map_cons, hF]
  unfold results
  rw [h]
  simp only [List.mapM_toArray, Sem.run_bind, Sem.run_map]
  rw [key _ (fun _ => rfl)]
  match ts with
  | [] => rfl
  | [t] => rfl
  | t :: u :: r => simp [resV]

def retQ (ts : List Tmp) (Q : AE → H → Prop) : Exit → Env → H → Prop
  | .normal, ρ, h => Q (.ret (resAV ρ ts)) h
  | .ret, ρ, h => Q (.ret (resAV ρ ts)) h
  | .panic ch, _, h => Q (.pan ch) h
  | _, _, _ => False

theorem AC_of {P : Program} {G : List (Nat × List D)} {f : FuncId} {fn : Func} {c : Code} {args : List AV} {h : H} {Q : AE → H → Prop} {ts : List Tmp} (n : Nat) (hf : P.funcs[f]? = some fn) (hb : fn.body = some c) (hn : fn.ntmps = n) (hr : fn.results = (ts.map ResultVar.tmp).toArray) (ha : args.length ≤ n)
    (hj : ∀ W I, J ⟨P, ⟨W, I, blks h, G⟩, n, []⟩ c (retQ ts Q) (argsEnv 0 args) h) : AC P G f args h Q := by
  intro I W vs h1 h2 h3 hG h4
  have hlen := AV.rels_length h4
  refine calls_of_wp hf hb ?_
  have hok : Ok ⟨W, I, blks h, G⟩ I h W :=
    { ent := h1, nd := h2, imm := h3, new := fun b hb => .inl hb, inew := fun b hb => .inl hb, sup := fun b hb => hb, os := rfl, tape := rfl, output := rfl, size := Nat.le_refl _, keep := fun _ _ _ => rfl, glob := hG }
  have hsf : SF n W I (argsEnv 0 args) { tmps := vs.toArray ++ Array.replicate (fn.ntmps - vs.toArray.size) undef, defers := [] } := by
    refine ⟨by simp [hn]; omega, fun t => ?_⟩
    have := get_argsEnv W I args vs 0 t h4
    simp only [Nat.zero_le, if_true, Nat.sub_zero] at this
    have e : (vs.toArray ++ Array.replicate (fn.ntmps - vs.toArray.size) undef).getD t undef = (vs[t]?).getD undef := by
      rw [Array.getD_eq_getD_getElem?, Array.getElem?_append]
      by_cases ht : t < vs.length
      · simp [ht]
      · simp only [List.size_toArray, ht, if_false]
        rw [List.getElem?_eq_none (by omega)]
        simp only [Array.getElem?_replicate]
        split <;> rfl
    rw [e]; exact this
  refine wp_mono (hj W I I _ W hok hsf rfl) ?_
  rintro e a w ⟨I', ρ', h', k1, k2, k3, k4⟩
  have hres := run_results P fn ts hr a.tmps w
  have hrel : AV.rel w I' (resAV ρ' ts) (resV a.tmps ts) := by
    match ts with
    | [] => exact ⟨[], rfl, trivial⟩
    | [t] => exact k2.2 t
    | t :: u :: r => exact ⟨_, rfl, rels_map_get k2 (t :: u :: r)⟩
  cases e with
  | normal => exact ⟨k3, _, hres, _, h', I', k4, k1, hrel⟩
  | ret => exact ⟨k3, _, hres, _, h', I', k4, k1, hrel⟩
  | panic ch => exact ⟨k3, _, h', I', k4, k1, rfl⟩
  | exit _ => exact k4.elim
  | goto _ => exact k4.elim
  | outgrown => exact k4.elim

theorem blks_append (h1 h2 : H) : blks (h1 ++ h2) = blks h1 ++ blks h2 := by simp [blks]

/-- A call's leaving, seen by the caller. -/
theorem Ok.call {c : Cx} {I I' : Nat → Prop} {hc hr h' : H} {w w' : World} (k : Ok c I (hc ++ hr) w) (k' : Ok ⟨w, I, blks hc, c.G⟩ I' h' w') : Ok c I' (h' ++ hr) w' ∧ ∀ b, I b → w'.heap[b]? = w.heap[b]? := by
  have hnd : (blks hc ++ blks hr).Nodup := by rw [← blks_append]; exact k.nd
  have hdis : ∀ b, b ∈ blks hc → b ∉ blks hr := fun b hb hb' => by
    have := (List.nodup_append.1 hnd).2.2 b hb b hb'
    exact this rfl
  have hI : ∀ b, I b → b ∉ blks hc ∧ b ∉ blks hr := fun b hb => by
    have := (k.imm b hb).2
    rw [blks_append, List.mem_append] at this
    exact ⟨fun h => this (.inl h), fun h => this (.inr h)⟩
  have hblk : ∀ e ∈ hr, ∀ b, e.blk = some b → b ∈ blks hr ∧ b < w.heap.size := fun e he b hb =>
    ⟨List.mem_filterMap.2 ⟨e, he, hb⟩, Ent.blk_lt (k.ent e (List.mem_append.2 (.inr he))) hb⟩
  have hrlt : ∀ b ∈ blks hr, b < w.heap.size := fun b hb => by
    obtain ⟨e, he, heb⟩ := List.mem_filterMap.1 hb
    exact (hblk e he b heb).2
  have hkeepI : ∀ b, I b → w'.heap[b]? = w.heap[b]? := fun b hb => k'.keep b (k.imm b hb).1 (hI b hb).1
  have hkeepr : ∀ b ∈ blks hr, w'.heap[b]? = w.heap[b]? := fun b hb => k'.keep b (hrlt b hb) fun h => hdis b h hb
  have hEsplit : ∀ b, b ∈ blks hc ∨ w.heap.size ≤ b → b ∈ c.E ∨ c.W.heap.size ≤ b := fun b hb => by
    rcases hb with hb | hb
    · exact k.new b (by rw [blks_append]; exact List.mem_append.2 (.inl hb))
    · exact .inr (Nat.le_trans k.size hb)
  refine ⟨?_, hkeepI⟩
  exact
  { ent := fun e he => by
      rcases List.mem_append.1 he with he | he
      · exact k'.ent e he
      · exact Ent.rel_mono hkeepI (fun b hb => k'.sup b hb) (fun b hb => hkeepr b (hblk e he b hb).1) (k.ent e (List.mem_append.2 (.inr he)))
    nd := by
      rw [blks_append]
      refine List.nodup_append.2 ⟨k'.nd, (List.nodup_append.1 hnd).2.1, fun b hb b' hb' e => ?_⟩
      subst e
      rcases k'.new b hb with h | h
      · exact hdis b h hb'
      · have := hrlt b hb'
        exact absurd this (Nat.not_lt.2 h)
    imm := fun b hb => by
      refine ⟨(k'.imm b hb).1, fun hm => ?_⟩
      rw [blks_append, List.mem_append] at hm
      rcases hm with hm | hm
      · exact (k'.imm b hb).2 hm
      · rcases k'.inew b hb with h | h | h
        · exact (hI b h).2 hm
        · exact hdis b h hm
        · exact absurd (hrlt b hm) (Nat.not_lt.2 h)
    new := fun b hb => by
      rw [blks_append, List.mem_append] at hb
      rcases hb with hb | hb
      · exact hEsplit b (k'.new b hb)
      · exact k.new b (by rw [blks_append]; exact List.mem_append.2 (.inr hb))
    inew := fun b hb => by
      rcases k'.inew b hb with h | h
      · exact k.inew b h
      · exact .inr (hEsplit b h)
    sup := fun b hb => k'.sup b (k.sup b hb)
    os := k'.os.trans k.os
    tape := k'.tape.trans k.tape
    output := k'.output.trans k.output
    size := Nat.le_trans k.size k'.size
    keep := fun b hb hE => by
      have hnot : b ∉ blks hc := fun hm => by
        rcases k.new b (by rw [blks_append]; exact List.mem_append.2 (.inl hm)) with h | h
        · exact hE h
        · exact absurd hb (Nat.not_lt.2 h)
      exact (k'.keep b (Nat.lt_of_lt_of_le hb k.size) hnot).trans (k.keep b hb hE)
    glob := fun q hq => k'.glob q hq }

def AVs.le : List AV → List AV → Prop
  | [], [] => True
  | x :: xs, y :: ys => AV.le x y ∧ AVs.le xs ys
  | _, _ => False
theorem AVs.le_rel {w : World} {I : Nat → Prop} : ∀ {xs ys : List AV} {vs : List Value}, AVs.le xs ys → AV.rels w I xs vs → AV.rels w I ys vs
  | [], [], [], _, _ => trivial
  | _ :: _, _ :: _, _ :: _, ⟨h1, h2⟩, ⟨h3, h4⟩ => ⟨h1 _ _ _ h3, AVs.le_rel h2 h4⟩
theorem AVs.le_refl : ∀ xs : List AV, AVs.le xs xs
  | [] => trivial
  | x :: xs => ⟨AV.le_refl x, AVs.le_refl xs⟩

/-- The source calls it, and it has a body. -/
def Cal (P : Program) (f : FuncId) : Prop := ∀ (args : Array Value) (w : World), (callFunc f args).run P w = .ok (.enter f args) w
theorem Cal.of {P : Program} {f : FuncId} {fn : Func} (hf : P.funcs[f]? = some fn) (hn : (fn.name == "runtime.NumGoroutine") = false) (hb : fn.body.isNone = false) : Cal P f := by
  intro args w
  simp only [callFunc, Sem.run_bind, run_program, Result.andThen_ok, hf, hn, hb, Bool.false_eq_true, if_false, Sem.run_pure]

theorem rels_evs {n : Nat} {w : World} {I : Nat → Prop} {ρ : Env} {a : Act} (f : SF n w I ρ a) : ∀ xs : List Operand, AV.rels w I (xs.map (ev ρ)) (xs.map a.eval)
  | [] => trivial
  | x :: xs => ⟨f.ev x, rels_evs f xs⟩

section
variable {k : Kx} {Q : Exit → Env → H → Prop} {ρ ρ' : Env} {h h' : H} {ops : Array Oper} {l : List Oper} {dst : Option Tmp} {ty : TypeId} {pos : String} {after : Array Edge} {g : Option (Nat × Bool)}

theorem JL_call {f : FuncId} {xs : Array Operand} {ats : Array TypeId} {args : List AV} {hc hr : H} {R : AE → H → Prop} (hcal : Cal k.P f) (hac : AC k.P k.c.G f args hc R) (hle : AVs.le (xs.toList.map (ev ρ)) args) (hs : h = hc ++ hr) (hd : ∀ t, dst = some t → t < k.n)
    (hret : ∀ r h', R (.ret r) h' → JL k ops l Q (put ρ dst r) (h' ++ hr)) (hpan : ∀ ch h', R (.pan ch) h' → Q (.panic ch) ρ (h' ++ hr)) :
    JL k ops (⟨dst, .call { callee := .value (.func f), args := xs, argTypes := ats }, ty, pos, after, none⟩ :: l) Q ρ h := by
  intro I a w h1 h2 h3
  subst hs
  refine wpList_plain rfl fun K hK => ?_
  unfold Oper.wp
  rw [execOp_call_go, hcal]
  simp only [Oper.upon]
  have hargs : (#[] ++ xs.map a.eval ++ #[] : Array Value) = (xs.toList.map a.eval).toArray := by
    apply Array.ext'; simp
  rw [hargs]
  refine (hac I w _ (fun e he => h1.ent e (List.mem_append.2 (.inl he))) ?_ ?_ (fun q hq => h1.glob q hq) (AVs.le_rel hle (rels_evs h2 xs.toList))).mono ?_
  · have := h1.nd; rw [blks_append] at this; exact (List.nodup_append.1 this).1
  · intro b hb
    have := h1.imm b hb
    rw [blks_append, List.mem_append] at this
    exact ⟨this.1, fun hm => this.2 (.inl hm)⟩
  · rintro e w' ⟨r, h', I', hR, hok, hrel⟩
    obtain ⟨k1, k2⟩ := h1.call hok
    have hsf : SF k.n w' I' ρ a := h2.mono k2 (fun b hb => hok.sup b hb)
    cases r with
    | ret r =>
      cases e with
      | returned v => exact hK _ _ (hret r h' hR I' _ w' k1 (hsf.put hd hrel) (by rw [Act.defers_put]; exact h3))
      | panicked ch => exact hrel.elim
      | outgrown => exact hrel.elim
    | pan ch =>
      cases e with
      | returned v => exact hrel.elim
      | panicked ch' => subst hrel; exact ⟨I', ρ, h' ++ hr, k1, hsf, h3, hpan _ _ hR⟩
      | outgrown => exact hrel.elim

/-- A call that writes on nothing of the caller's, and hands back this. -/
theorem JL_call0 {f : FuncId} {xs : Array Operand} {ats : Array TypeId} {args : List AV} {r : AV} (hcal : Cal k.P f) (hac : ACr k.P k.c.G f args r) (hle : AVs.le (xs.toList.map (ev ρ)) args) (hd : ∀ t, dst = some t → t < k.n)
    (hret : JL k ops l Q (put ρ dst r) h) :
    JL k ops (⟨dst, .call { callee := .value (.func f), args := xs, argTypes := ats }, ty, pos, after, none⟩ :: l) Q ρ h :=
  JL_call (hc := []) (hr := h) hcal hac hle rfl hd (fun r' h' hq => by obtain ⟨e1, e2⟩ := hq; cases e1; subst e2; exact hret) (fun ch h' hq => by cases hq.1)

/-! ### Views: what is told otherwise, the world untouched -/
def VS (ρ : Env) (h : H) (ρ' : Env) (h' : H) : Prop :=
  ∀ (c : Cx) (I : Nat → Prop) (n : Nat) (a : Act) (w : World), Ok c I h w → SF n w I ρ a → ∃ I', Ok c I' h' w ∧ SF n w I' ρ' a
theorem J_vs {x : Code} (v : VS ρ h ρ' h') (hj : J k x Q ρ' h') : J k x Q ρ h := fun I a w h1 h2 h3 => let ⟨I', k1, k2⟩ := v k.c I k.n a w h1 h2; hj I' a w k1 k2 h3
theorem JL_vs (v : VS ρ h ρ' h') (hj : JL k ops l Q ρ' h') : JL k ops l Q ρ h := fun I a w h1 h2 h3 => let ⟨I', k1, k2⟩ := v k.c I k.n a w h1 h2; hj I' a w k1 k2 h3
theorem VS.of_le (hle : Env.le ρ ρ') : VS ρ h ρ' h := fun _ I _ _ _ h1 h2 => ⟨I, h1, h2.le hle⟩
theorem VS.trans {ρ'' : Env} {h'' : H} (v1 : VS ρ h ρ' h') (v2 : VS ρ' h' ρ'' h'') : VS ρ h ρ'' h'' := fun c I n a w h1 h2 => let ⟨I', k1, k2⟩ := v1 c I n a w h1 h2; v2 c I' n a w k1 k2

theorem blks_sublist {h h' : H} (hs : List.Sublist h' h) : List.Sublist (blks h') (blks h) := hs.filterMap _
theorem VS.drop (hs : List.Sublist h' h) : VS ρ h ρ h' := fun _ I _ _ _ h1 h2 =>
  ⟨I, { ent := fun e he => h1.ent e (hs.subset he), nd := h1.nd.sublist (blks_sublist hs), imm := fun b hb => ⟨(h1.imm b hb).1, fun hm => (h1.imm b hb).2 ((blks_sublist hs).subset hm)⟩,
        new := fun b hb => h1.new b ((blks_sublist hs).subset hb), inew := h1.inew, sup := h1.sup, os := h1.os, tape := h1.tape, output := h1.output, size := h1.size, keep := h1.keep, glob := h1.glob }, h2⟩
theorem VS.perm (hp : h.Perm h') : VS ρ h ρ h' := fun _ I _ _ _ h1 h2 =>
  have hb : (blks h).Perm (blks h') := hp.filterMap _
  ⟨I, { ent := fun e he => h1.ent e (hp.mem_iff.2 he), nd := hb.nodup_iff.1 h1.nd, imm := fun b hb' => ⟨(h1.imm b hb').1, fun hm => (h1.imm b hb').2 (hb.mem_iff.2 hm)⟩,
        new := fun b hb' => h1.new b (hb.mem_iff.2 hb'), inew := h1.inew, sup := h1.sup, os := h1.os, tape := h1.tape, output := h1.output, size := h1.size, keep := h1.keep, glob := h1.glob }, h2⟩
/-- Nothing, as an empty row that may grow. -/
theorem VS.nilrow (T : TypeId) (sz : Nat) : VS ρ h ρ (.row (.slice none 0 0) 0 T sz [] :: h) := fun _ I _ _ w h1 h2 =>
  ⟨I, { ent := fun e he => by
          rcases List.mem_cons.1 he with he | he
          · subst he; exact ⟨[], World.ownsRow_nil w 0 T sz, trivial⟩
          · exact h1.ent e he
        nd := h1.nd, imm := h1.imm, new := h1.new, inew := h1.inew, sup := h1.sup, os := h1.os, tape := h1.tape, output := h1.output, size := h1.size, keep := h1.keep, glob := h1.glob }, h2⟩

/-! ### Regions whose order is open -/
/-- The first n operations come in whatever order, those behind them in the text's order. -/
def JQ (k : Kx) (ops : Array Oper) (n : Nat) (l : List Oper) (Q : Exit → Env → H → Prop) (ρ : Env) (h : H) : Prop :=
  ∀ I a w, Ok k.c I h w → SF k.n w I ρ a → a.defers = k.df → wpQuiet k.P ops (Same I h w) (fun a' => ∀ w', Same I h w w' → wpList k.P ops (lift k Q) (l.drop n) a' w') (l.take n) a

theorem J_region_draw {id tn : Nat} {l : List Oper} (hm : k.P.follows .mixedOrders = true) (hB : Region.lexB .any l.toArray = true) (hn : l.length = tn) (hj : JQ k l.toArray tn l Q ρ h) : J k (.region id l.toArray true) Q ρ h := fun I a w h1 h2 h3 => by
  have := hj I a w h1 h2 h3
  rw [← hn, List.take_length, List.drop_length] at this
  exact wp_region_quiet (C := Same I h w) hm hB ⟨rfl, rfl, rfl, Nat.le_refl _, fun _ _ => rfl⟩ this
/-- A store at the end. -/
theorem J_region_tail {id tn : Nat} {l : List Oper} (hm : k.P.follows .mixedOrders = true) (hn : l.length = tn + 1) (hB : Region.lexTailB .any l.toArray tn = true) (hj : JQ k l.toArray tn l Q ρ h) : J k (.region id l.toArray true) Q ρ h :=
  fun I a w h1 h2 h3 => wp_region_quiet_tail (C := Same I h w) tn hm hB ⟨rfl, rfl, rfl, Nat.le_refl _, fun _ _ => rfl⟩ (hj I a w h1 h2 h3)
theorem JQ_nil (hj : JL k ops l Q ρ h) : JQ k ops 0 l Q ρ h := fun I _ _ h1 h2 h3 => wpQuiet_nil fun _ hs => hj I _ _ (h1.same hs) (SF.same h1 hs h2) h3
section
variable {tn : Nat}
theorem JQ_pure {o : Oper} {r : AV} (hp : Pure k.P k.c.G o ρ h r) (hg : o.guard = none) (hd : ∀ t, o.dst = some t → t < k.n) (hj : JQ k ops tn l Q (put ρ o.dst r) h) : JQ k ops (tn + 1) (o :: l) Q ρ h := by
  intro I a w h1 h2 h3
  obtain ⟨v, hv, hrun⟩ := hp k.c I k.n a w rfl h1 h2
  rw [List.take_succ_cons]
  unfold wpQuiet
  rw [if_pos (by simp [Region.wanted, hg])]
  exact ⟨v, fun w' hw' => by unfold Oper.quietAt; rw [hrun w' hw']; exact ⟨rfl, rfl⟩, hj I _ w h1 (h2.put hd hv) (by rw [Act.defers_put]; exact h3)⟩
theorem JQ_guard_no {o oj : Oper} {j d : Nat} {want b : Bool} (hg : o.guard = some (j, want)) (hj : ops[j]? = some oj) (hdj : oj.dst = some d) (hr : get ρ d = .val (.bool b)) (hn : d < k.n)
    (hd : ∀ t, o.dst = some t → t < k.n) (hb : b = !want) (hno : JQ k ops tn l Q (put ρ o.dst (.val undef)) h) : JQ k ops (tn + 1) (o :: l) Q ρ h := by
  intro I a w h1 h2 h3
  have hw := wanted_of (ops := ops) h2 hg hj hdj hr hn
  rw [List.take_succ_cons]
  unfold wpQuiet
  rw [if_neg (by rw [hw, hb]; cases want <;> simp)]
  exact hno I _ w h1 (h2.put hd (r := .val undef) rfl) (by rw [Act.defers_put]; exact h3)
theorem JQ_guard_un {o oj : Oper} {j d : Nat} {want : Bool} (hg : o.guard = some (j, want)) (hj : ops[j]? = some oj) (hdj : oj.dst = some d) (hr : get ρ d = .val undef)
    (hd : ∀ t, o.dst = some t → t < k.n) (hno : JQ k ops tn l Q (put ρ o.dst (.val undef)) h) : JQ k ops (tn + 1) (o :: l) Q ρ h := by
  intro I a w h1 h2 h3
  have hw := wanted_undef (ops := ops) h2 hg hj hdj hr
  rw [List.take_succ_cons]
  unfold wpQuiet
  rw [if_neg (by rw [hw]; simp)]
  exact hno I _ w h1 (h2.put hd (r := .val undef) rfl) (by rw [Act.defers_put]; exact h3)
theorem JQ_guard_yes {o oj : Oper} {j d : Nat} {want : Bool} (hg : o.guard = some (j, want)) (hj : ops[j]? = some oj) (hdj : oj.dst = some d) (hr : get ρ d = .val (.bool want)) (hn : d < k.n)
    (hy : JQ k ops (tn + 1) ({ o with guard := none } :: l) Q ρ h) : JQ k ops (tn + 1) (o :: l) Q ρ h := by
  intro I a w h1 h2 h3
  have hw := wanted_of (ops := ops) h2 hg hj hdj hr hn
  have := hy I a w h1 h2 h3
  rw [List.take_succ_cons] at this ⊢
  unfold wpQuiet at this ⊢
  rw [if_pos (by rw [hw]; simp)]
  rw [if_pos (by simp [Region.wanted])] at this
  exact this
/-- A call that hands back a number or a truth. -/
theorem JQ_call {f : FuncId} {xs : Array Operand} {ats : Array TypeId} {args : List AV} {v : Value} (hcal : Cal k.P f) (hac : ACr k.P k.c.G f args (.val v)) (hle : AVs.le (xs.toList.map (ev ρ)) args) (hd : ∀ t, dst = some t → t < k.n)
    (hret : JQ k ops tn l Q (put ρ dst (.val v)) h) :
    JQ k ops (tn + 1) (⟨dst, .call { callee := .value (.func f), args := xs, argTypes := ats }, ty, pos, after, none⟩ :: l) Q ρ h := by
  intro I a w h1 h2 h3
  rw [List.take_succ_cons]
  unfold wpQuiet
  rw [if_pos (by simp [Region.wanted])]
  refine ⟨v, fun w' hw' => ?_, hret I _ w h1 (h2.put hd (v := v) rfl) (by rw [Act.defers_put]; exact h3)⟩
  unfold Oper.quietAt
  rw [execOp_call_go, hcal]
  have hargs : (#[] ++ xs.map a.eval ++ #[] : Array Value) = (xs.toList.map a.eval).toArray := by
    apply Array.ext'; simp
  refine ⟨rfl, ?_⟩
  rw [hargs]
  have hok := h1.same hw'
  refine (hac I w' _ (by simp) (by simp [blks]) (fun b hb => ⟨(hok.imm b hb).1, by simp [blks]⟩) (fun q hq => hok.glob q hq) (AVs.le_rel hle (rels_evs (SF.same h1 hw' h2) xs.toList))).mono ?_
  rintro e w'' ⟨r, h', I', ⟨rfl, rfl⟩, hok', hrel⟩
  cases e with
  | returned u =>
    have hu : u = v := hrel
    subst hu
    exact ⟨rfl, hw'.trans ⟨hok'.os, hok'.tape, hok'.output, hok'.size, fun b hb => hok'.keep b hb (by simp [blks])⟩⟩
  | panicked ch => exact hrel.elim
  | outgrown => exact hrel.elim
end
end
end Go.Av
