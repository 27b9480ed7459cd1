/- A bundle of this claim's own texts: E18 P23. -/
import Derived.Test.YtnlfhnbcdfdhgaaGreatDoorD1
set_option linter.unusedVariables false
set_option linter.unusedSimpArgs false
set_option maxRecDepth 100000
set_option maxHeartbeats 4000000
namespace Go.Av
open Go
def Sl.full (q : Sl) : Sl := ⟨q.ad, q.n, q.n⟩
section
variable {P : Program} {G : List (Nat × List D)} {ρ : Env} {h : H} {dst : Option Tmp} {ty : TypeId} {pos : String} {after : Array Edge} {g : Option (Nat × Bool)}
theorem fS {α : Type} {f : α → List D} {xs : List α} {T E E0z9 : TypeId} {x hi mx : Operand} {sz sz0 eb : Nat} {q : Sl} {n : Int} {z : Value} (hx : evO ρ x = some (.val q.v)) (hhi : evO ρ hi = some (.int n)) (hmx : evO ρ mx = some (.int n)) (hT : P.underlying T = some (.slice E)) (hE : El P E z sz eb)
 (hm : AH q.v E0z9 sz0 f xs ∈ h) (hn : n = xs.length) : Pure P G ⟨dst, .slice T x none (some hi) (some mx), ty, pos, after, g⟩ ρ h (.val q.full.v) := by
 subst hn
 intro c I m a w _ k s
 obtain ⟨i, hE, _, _, _⟩ := hE.get
 have e1 := AL (s.ev x) (AA hx)
 have e2 := AL (s.ev hi) (AA hhi)
 have e3 := AL (s.ev mx) (AA hmx)
 obtain ⟨us, ho, _⟩ := k.ent _ hm
 refine ⟨_, rfl, fun w' _ => ?_⟩
 obtain ⟨ad, n, cap⟩ := q
 have key : n = xs.length ∧ n ≤ cap ∧ (ad = none → n = 0 ∧ cap = 0) := by
  rcases ho.2 with ⟨hv, hn⟩ | ⟨g, cap', cur, hv, _, _, hnc, _⟩
  · simp only [Value.slice.injEq] at hv
    exact ⟨by omega, by omega, fun _ => ⟨hv.2.1, hv.2.2⟩⟩
  · simp only [Value.slice.injEq] at hv
    exact ⟨hv.2.1, by omega, fun e => by rw [hv.1] at e; cases e⟩
 obtain ⟨k1, k2, k3⟩ := key
 have b1 : (0 : Int) ≤ xs.length ∧ (xs.length : Int) ≤ (cap : Int) := by omega
 have b2 : (xs.length : Int) ≤ max (xs.length : Int) 0 := by omega
 subst k1
 simp [execOp, e1, e2, e3, Instr.sliceAt, run_underlying hT, Instr.slice, Instr.sliceBounds, Instr.sliceBound, asIntOf, b1, b2, sizeOf, typeInfo, hE, Sl.full]
 cases ad with
 | none => simp [(k3 rfl).1]
 | some ad0 =>
   obtain ⟨bb, oo, ss⟩ := ad0
   cases ss <;> (simp [Addr.add]; intro hc; exfalso; omega)
end
section
variable {k : Kx} {Q : Exit → Env → H → Prop} {ρ : Env} {h : H} {ops : Array Oper} {l : List Oper} {d : Nat} {dst : Option Tmp} {ty : TypeId} {pos : String} {after : Array Edge}
theorem gG {T E : TypeId} {x y : Operand} {z : Value} {sz eb eb' n : Nat} {q : Sl} {xs : List AV} {rows : List (List D)} (hT : k.P.underlying T = some (.slice E)) (he : El k.P E z sz eb) (hz : z.cells.size = sz) (h0 : 0 < sz)
 (hx : ev ρ x = .val q.full.v) (hy : ev ρ y = .d (.l sz eb' rows)) (hm : Ent.row q.v n E sz xs ∈ h) (hr : 0 < rows.length) (hb : (n + rows.length) * eb ≤ 140737488355328) (hmm : n + rows.length ≤ 140737488355328)
 {I : Nat → Prop} {a : Act} {w : World} (k1 : Ok k.c I h w) (k2 : SF k.n w I ρ a) :
 ∃ v' w' I', (execOp a.eval ⟨dst, .call { callee := .builtin .append, args := #[x, y], argTypes := #[T, T] }, ty, pos, after, none⟩).run k.P w = .ok (.value v') w' ∧ Ok k.c I' (.row v' (n + rows.length) E sz (xs ++ rows.flatten.map D.av) :: h) w' ∧ SF k.n w' I' ρ a ∧ w.grownBy w' none := by
 obtain ⟨I, k1, k2⟩ := (VS.nilrow E sz : VS ρ h ρ _) k.c I k.n a w k1 k2
 obtain ⟨i, hi, hz0, hz1, hz2⟩ := he.get
 have e1 := AL (k2.ev x) hx
 have e2 := BW (k2.ev y) hy
 obtain ⟨os, ho, hos⟩ := k1.ent (.row q.v n E sz xs) (List.mem_cons_of_mem _ hm)
 have hml : n + rows.length ≤ maxLen := by simp only [maxLen]; omega
 have hsmall : n + rows.length ≤ 9223372036854775807 := by omega
 have fin : ∀ (v' : Value) (w' : World) (us : List Value), (execOp a.eval ⟨dst, .call { callee := .builtin .append, args := #[x, y], argTypes := #[T, T] }, ty, pos, after, none⟩).run k.P w = .ok (.value v') w' →
  w'.ownsRow 0 E sz v' (n + rows.length) (os ++ us) → w.grownBy w' none → (v'.ownBlock = none ∨ v'.ownBlock = some w.heap.size) → AV.rels w I (rows.flatten.map D.av) us →
  ∃ v' w' I', (execOp a.eval ⟨dst, .call { callee := .builtin .append, args := #[x, y], argTypes := #[T, T] }, ty, pos, after, none⟩).run k.P w = .ok (.value v') w' ∧ Ok k.c I' (.row v' (n + rows.length) E sz (xs ++ rows.flatten.map D.av) :: h) w' ∧ SF k.n w' I' ρ a ∧ w.grownBy w' none := by
  intro v' w' us hrun how hgr hbl hus
  have hos' : AV.rels w I xs os := hos
  obtain ⟨m1, m2⟩ := Ok.grown (h1 := []) (h2 := h) (v := .slice none 0 0) (v' := v') (n := 0) (m := n + rows.length) (T := E) (sz := sz) (xs := []) (ys := xs ++ rows.flatten.map D.av) (us := os ++ us) k1 hgr hbl
   ⟨[], how, ⟨by simp, .inl ⟨rfl, rfl⟩⟩, trivial⟩ (AV.rels_append hos' hus)
  exact ⟨v', w', I, hrun, m1, k2.mono m2 (fun _ h => h), hgr⟩
 rcases Rel.cells_of h0 e2 with ⟨_, e3⟩ | ⟨ad, cap, us, e3, hl, hc, h1c, hrel⟩
 · subst e3; exact absurd hr (by simp)
 rcases ho.2 with ⟨hv, hn⟩ | ⟨g, cap', cur, hv, hbg, hg, hnc, hcm, hcs, htake⟩
 · subst hn
   have hos0 : os = [] := List.eq_nil_of_length_eq_zero (by simpa using ho.1)
   subst hos0
   have e1' : a.eval x = .slice none 0 0 := by
    rw [e1]; obtain ⟨ad, n, c⟩ := q
    simp only [Value.slice.injEq] at hv
    obtain ⟨rfl, rfl, rfl⟩ := hv; rfl
   obtain ⟨v', w', hrun, q1, q2, _, q4⟩ := run_append_own_at (P := k.P) w 0 T ty E i z sz eb hT hi hz0 hz1 hz2 hz h0 (.slice none 0 0) 0 [] ⟨by simp, .inl ⟨rfl, rfl⟩⟩ ad rows.length cap us hl hc h1c hml hb (Nat.zero_le _)
   refine fin v' w' us ?_ (by simpa using q1) q2 q4 hrel
   simp [execOp, resolve, invoke, builtin, e1', e3, hrun]
 · have e1' : a.eval x = .slice (some ⟨g, 0, none⟩) n n := by
    rw [e1]; obtain ⟨ad, n', c⟩ := q
    simp only [Value.slice.injEq] at hv
    obtain ⟨rfl, rfl, rfl⟩ := hv; rfl
   subst hz1
   subst hz2
   have hlen : (os ++ us).length = (n + rows.length) * i.size := by rw [List.length_append, ho.1, hl, Nat.add_mul]
   have holds : ∀ j u, os[j]? = some u → w.cell? ((⟨g, 0, none⟩ : Addr).add j) = some u := fun j u hj => ho.cells (g := g) (by rw [hv]; rfl) j u hj
   have hgt : n < n + rows.length := by omega
   have hge := grownCap_ge w (n + rows.length) n E
   have hcm2 : grownCap w (n + rows.length) n E ≤ maxLen := grownCap_le_maxLen w (n + rows.length) n E hml
   have hrun := run_append_grow (P := k.P) w T ty E i z hT hi hz0 ⟨g, 0, none⟩ n n os ho.1 holds ad rows.length cap us hl hc hgt (by omega) (growslice_fits hgt hb)
   have hrun' : (execOp a.eval ⟨dst, .call { callee := .builtin .append, args := #[x, y], argTypes := #[T, T] }, ty, pos, after, none⟩).run k.P w = .ok (.value (.slice (some ⟨w.heap.size, 0, none⟩) (n + rows.length) (grownCap w (n + rows.length) n E)))
    (w.drew.alloc (.cells (os.toArray ++ us.toArray ++ Builtin.zeroCells z.cells (grownCap w (n + rows.length) n E - (n + rows.length))) E)) := by
    simp [execOp, resolve, invoke, builtin, e1', e3, hrun]
   refine fin _ _ us hrun' ⟨hlen, .inr ⟨w.heap.size, _, _, rfl, Nat.zero_le _, heap_alloc_new w.drew _, hge, hcm2, ?_, ?_⟩⟩ ⟨rfl, rfl, rfl, by simp, fun b hb' _ => heap_alloc_old w.drew _ hb'⟩ (.inr rfl) hrel
   · simp only [Array.size_append, List.size_toArray, size_zeroCells, hz, ho.1, hl, ← Nat.add_mul]
     congr 1
     omega
   · simp only [Array.toList_append, List.append_assoc]
     rw [← List.append_assoc, ← hlen]
     exact List.take_left
end
def Eq7 (P : Program) (T : TypeId) : Prop := P.eqGuardType P.depth T = false ∧ ∀ (a : Bool) (b c d e : Int) (f g : Bool) w, (Op.equalIn 10000 T (.agg #[.bool a, .int .i64 b, .int .i64 c, .int .i64 d, .int .i64 e, .bool f, .bool g]) (.agg #[.bool a, .int .i64 b, .int .i64 c, .int .i64 d, .int .i64 e, .bool f, .bool g])).run P w = .ok true w
section
variable {P : Program} {G : List (Nat × List D)} {ρ : Env} {h : H} {dst : Option Tmp} {ty : TypeId} {pos : String} {after : Array Edge} {g : Option (Nat × Bool)}
theorem fk {T T' : TypeId} {x y : Operand} {a : Bool} {b c d e : Int} {f g' : Bool} (hT : Eq7 P T) (hx : evO ρ x = some (.agg [.bool a, .int b, .int c, .int d, .int e, .bool f, .bool g'])) (hy : evO ρ y = some (.agg [.bool a, .int b, .int c, .int d, .int e, .bool f, .bool g'])) :
 Pure P G ⟨dst, .binOp .eql T x y T', ty, pos, after, g⟩ ρ h (.bool true) :=
 Ae fun w I _ ac k => ⟨_, rfl, fun w' => by
  obtain ⟨vs, e1, r1⟩ := BW (k.ev x) (AA hx)
  obtain ⟨us, e2, r2⟩ := BW (k.ev y) (AA hy)
  obtain ⟨rfl⟩ : vs = [.bool a, .int .i64 b, .int .i64 c, .int .i64 d, .int .i64 e, .bool f, .bool g'] := by
   match vs, r1 with
   | [p, q, r, t, u, v, x], ⟨h1, h2, h3, h4, h5, h6, h7, _⟩ => cases h1; cases h2; cases h3; cases h4; cases h5; cases h6; cases h7; rfl
  obtain ⟨rfl⟩ : us = [.bool a, .int .i64 b, .int .i64 c, .int .i64 d, .int .i64 e, .bool f, .bool g'] := by
   match us, r2 with
   | [p, q, r, t, u, v, x], ⟨h1, h2, h3, h4, h5, h6, h7, _⟩ => cases h1; cases h2; cases h3; cases h4; cases h5; cases h6; cases h7; rfl
  simp [execOp, e1, e2, run_eqGuard_agg _ _ _ _ _ _ _ hT.1, run_eql_struct, hT.2]⟩
end
theorem ACr.le {P : Program} {G : List (Nat × List D)} {f : FuncId} {args : List AV} {r r' : AV} (hac : ACr P G f args r) (hle : AV.le r r') : ACr P G f args r' := fun I W vs h1 h2 h3 h4 h5 => (hac I W vs h1 h2 h3 h4 h5).mono fun e w' ⟨x, h', I', q, k, rel⟩ => by
 obtain ⟨rfl, rfl⟩ := q
 refine ⟨.ret r', [], I', ⟨rfl, rfl⟩, k, ?_⟩
 cases e with
 | returned v => exact hle _ _ _ rel
 | panicked ch => exact rel.elim
 | outgrown => exact rel.elim
theorem AC.argsLe {P : Program} {G : List (Nat × List D)} {f : FuncId} {xs ys : List AV} {h : H} {Q : AE → H → Prop} (hle : AVs.le xs ys) (hac : AC P G f ys h Q) : AC P G f xs h Q := fun I W vs h1 h2 h3 h4 h5 => hac I W vs h1 h2 h3 h4 (AVs.le_rel hle h5)
abbrev ouT (a : Bool) (b c d e : Int) (f g x : Bool) : AV := .tup [.agg [.bool a, .int b, .int c, .int d, .int e, .bool f, .bool g], .bool x]
def ouX (a : Bool) (b c d e : Int) (f g x : Bool) : Value := .tuple #[.agg #[.bool a, .int .i64 b, .int .i64 c, .int .i64 d, .int .i64 e, .bool f, .bool g], .bool x]
theorem gL (a : Bool) (b c d e : Int) (f g x : Bool) : AV.le (ouT a b c d e f g x) (.val (ouX a b c d e f g x)) := by
 rintro w I u ⟨vs, rfl, r⟩
 match vs, r with
 | [p, q], ⟨⟨us, hu, r2⟩, h2, _⟩ =>
   match us, r2 with
   | [p1, p2, p3, p4, p5, p6, p7], ⟨h1, h2', h3, h4, h5, h6, h7, _⟩ =>
     cases h1; cases h2'; cases h3; cases h4; cases h5; cases h6; cases h7; cases h2; cases hu
     rfl
theorem gE (a : Bool) (b c d e : Int) (f g x : Bool) (w : World) (I : Nat → Prop) : AV.rel w I (ouT a b c d e f g x) (ouX a b c d e f g x) := ⟨[_, _], rfl, ⟨[_, _, _, _, _, _, _], rfl, rfl, rfl, rfl, rfl, rfl, rfl, rfl, trivial⟩, rfl, trivial⟩
section
variable {k : Kx} {Q : Exit → Env → H → Prop} {ρ : Env} {h : H} {ops : Array Oper} {l : List Oper} {d : Nat} {ty : TypeId} {pos : String} {after : Array Edge}
theorem gM {f : FuncId} {xs : Array Operand} {ats : Array TypeId} {es args : List AV} {v : Value} {r : AV} (hxs : FN ρ xs.toList = some es) (hcal : Cal k.P f) (hac : ACr k.P k.c.G f args (.val v)) (hr : ∀ w I, AV.rel w I r v) (hb : PR h es args) (hd : Nat.blt d k.n = true)
 (hj : JL k ops l Q ((d, r) :: ρ) h) : JL k ops (⟨some d, .call { callee := .value (.func f), args := xs, argTypes := ats }, ty, pos, after, none⟩ :: l) Q ρ h :=
 H9 hxs hcal hac hb hd (C3 (VS.of_le fun t => by
  simp only [get]
  cases Nat.beq d t with
  | true => intro w I u hu; cases hu; exact hr w I
  | false => exact fun _ _ _ h => h) hj)
end
structure JHN (k : Kx) (ops : Array Oper) (n f : Nat) (listed : Array Bool) (l2 : List Oper) (i m : Nat) (Q : Exit → Env → H → Prop) (hT : H) (ρ : Env) (h : H) : Prop where
 get : ∀ j, i ≤ j → j < i + m → j ∈ Region.ready .any ops listed → ∃ o, ops[j]? = some o ∧
  ((∀ c : World × (Nat → Prop) × List Nat, JL ⟨k.P, ⟨c.1, c.2.1, c.2.2, k.c.G⟩, k.n, k.df⟩ ops [o] (fun e ρ' hT' => e = .normal ∧ JH k ops n f (listed.setIfInBounds j true) l2 0 n false Q hT' ρ' h) ρ hT) ∨
   ∃ d r, d < k.n ∧ (∀ y, Region.wanted o y = true) ∧ (∀ I a w (K : Act → World → Prop) (Q' : Exit → Act → World → Prop), Ok k.c I (hT ++ h) w → SF k.n w I ρ a → (∀ v w' I', Ok k.c I' (hT ++ h) w' → SF k.n w' I' ((d, r) :: ρ) (a.put (some d) v) → Sam (blks hT) w w' → K (a.put (some d) v) w') → o.wp k.P a w K Q') ∧ JH k ops n f (listed.setIfInBounds j true) l2 0 n false Q hT ((d, r) :: ρ) h)
section
variable {k : Kx} {Q : Exit → Env → H → Prop} {ρ ρ' : Env} {h h' hT : H} {ops : Array Oper} {listed : Array Bool} {l2 : List Oper} {n f i m d : Nat} {op : Op} {ty : TypeId} {pos : String} {after : Array Edge} {pr : Bool}
theorem gH (_ht : True) : JHN k ops n f listed l2 i 0 Q hT ρ h := ⟨fun j h1 h2 => by omega⟩
theorem fV (hc : (Region.ready .any ops listed).contains i = false) (hj : JHN k ops n f listed l2 (i + 1) m Q hT ρ h) : JHN k ops n f listed l2 i (m + 1) Q hT ρ h :=
 ⟨fun j h1 h2 hr => by
  by_cases e : j = i
  · subst e
    have : (Region.ready .any ops listed).contains j = true := by simpa using hr
    rw [this] at hc; cases hc
  · exact hj.get j (by omega) (by omega) hr⟩
theorem gI {dst : Option Tmp} {g : Option (Nat × Bool)} (ho : ops[i]? = some ⟨dst, op, ty, pos, after, g⟩)
 (hj : Two (dh fun c => JL ⟨k.P, ⟨c.1, c.2.1, c.2.2, k.c.G⟩, k.n, k.df⟩ ops [⟨dst, op, ty, pos, after, g⟩] (fun e ρ' hT' => e = .normal ∧ JH k ops n f (listed.setIfInBounds i true) l2 0 n false Q hT' ρ' h) ρ hT) (JHN k ops n f listed l2 (i + 1) m Q hT ρ h)) : JHN k ops n f listed l2 i (m + 1) Q hT ρ h :=
 ⟨fun j h1 h2 hr => by
  by_cases e : j = i
  · subst e
    exact ⟨_, ho, .inl hj.fst.get⟩
  · exact hj.snd.get j (by omega) (by omega) hr⟩
theorem fT {α : Type} {f' : α → List D} {xs ys : List α} {T E : TypeId} {x y : Operand} {z : Value} {sz eb eb' : Nat} {q : Sl} (ho : ops[i]? = some ⟨some d, .call { callee := .builtin .append, args := #[x, y], argTypes := #[T, T] }, ty, pos, after, none⟩)
 (hx : evO ρ x = some (.val q.full.v)) (hU : k.P.underlying T = some (.slice E)) (he : El k.P E z sz eb) (hm : AH q.v E sz f' xs ∈ h) (hy : evO ρ y = some (.d (.l sz eb' (ys.map f')))) (hz : z.cells.size = sz) (h0 : Nat.blt 0 sz = true) (hsz : ∀ a, (f' a).length = sz) (hr : 0 < ys.length)
 (hd : Nat.blt d k.n = true) (hb : (xs.length + ys.length) * eb ≤ 140737488355328) (hmm : xs.length + ys.length ≤ 140737488355328)
 (hj : Two (JH k ops n f (listed.setIfInBounds i true) l2 0 n false Q hT ((d, .d (.l sz eb ((xs ++ ys).map f'))) :: ρ) h) (JHN k ops n f listed l2 (i + 1) m Q hT ρ h)) : JHN k ops n f listed l2 i (m + 1) Q hT ρ h :=
 ⟨fun j h1 h2 hrj => by
  by_cases e : j = i
  · subst e
    refine ⟨_, ho, .inr ⟨d, _, blt hd, fun y => by simp [Region.wanted], fun I a w K Q' k1 k2 hK => ?_, hj.fst⟩⟩
    obtain ⟨v', w', I', g1, g2, g3, g4⟩ := gG (h := hT ++ h) (dst := some d) (ty := ty) (pos := pos) (after := after) hU he hz (blt h0) (AA hx) (AA hy) (List.mem_append.2 (.inr hm)) (by simpa using hr) (by simpa using hb) (by simpa using hmm) k1 k2
    have e : ((xs.map f').flatten.map D.av) ++ ((ys.map f').flatten.map D.av) = (((xs ++ ys).map f').flatten).map D.av := by simp
    rw [e] at g2
    have V : VS ((d, .val v') :: ρ) (.row v' (xs.length + (ys.map f').length) E sz ((((xs ++ ys).map f').flatten).map D.av) :: (hT ++ h)) ((d, .d (.l sz eb ((xs ++ ys).map f'))) :: (d, .val v') :: ρ) (hT ++ h) :=
     VS.freeze (sz := sz) (eb := eb) (rows := (xs ++ ys).map f') (t := d) (v := v') (n := xs.length + (ys.map f').length) (E := E) (h1 := []) (h2 := hT ++ h) (blt h0) (by simp [get]) rfl (by simp) (fun r hr => by
      obtain ⟨a, _, rfl⟩ := List.mem_map.1 hr
      exact hsz a) (by simpa using hb)
    obtain ⟨I2, k3, k4⟩ := V k.c I' k.n (a.put (some d) v') w' g2 (g3.put (fun t ht => by cases ht; exact blt hd) (r := .val v') rfl)
    have k5 : SF k.n w' I2 ((d, .d (.l sz eb ((xs ++ ys).map f'))) :: ρ) (a.put (some d) v') := k4.le fun t => by
     simp only [get]
     cases Nat.beq d t with
     | true => exact fun _ _ _ h => h
     | false => exact fun _ _ _ h => h
    have := hK v' w' I2 k3 k5 ⟨g4.os, g4.tape, g4.output, g4.size, fun b hb _ => g4.block b hb (by simp)⟩
    unfold Oper.wp
    rw [g1]
    exact this
  · exact hj.snd.get j (by omega) (by omega) hrj⟩
theorem gJ (hne : (Region.ready .any ops listed).isEmpty = false) (hs : (Region.ready .any ops listed).all (fun j => decide (j < n)) = true) (hj : JHN k ops n f listed l2 0 n Q hT ρ h) : JH k ops n (f + 1) listed l2 i 0 false Q hT ρ h := by
 refine ⟨fun hsh inv I a w h1 h2 h3 => ⟨fun e => by rw [e] at hne; simp at hne, fun j hjr => ?_⟩⟩
 have hjn : j < n := by simpa using List.all_eq_true.1 hs j hjr
 refine ⟨hjn, ?_⟩
 obtain ⟨o, ho, hJ⟩ := hj.get j (Nat.zero_le _) (by omega) hjr
 unfold wpOp
 rw [ho]
 dsimp only
 rcases hJ with hJ | ⟨d, r, hd, hw, hB, hJ⟩
 · have H := hJ (w, I, blks hT) I a w h1.left h2 h3
   dsimp only at H
   have hK : ∀ a' w', lift ⟨k.P, ⟨w, I, blks hT, k.c.G⟩, k.n, k.df⟩ (fun e ρ' hT' => e = .normal ∧ JH k ops n f (listed.setIfInBounds j true) l2 0 n false Q hT' ρ' h) .normal a' w' →
    Sam (blks hT) w w' ∧ GB k.P .any ops (Sam (blks hT) w) n (fun listed' a' w' => Region.seqB .any ops (ops.size - n) n listed' = true ∧ wpList k.P ops (lift k Q) l2 a' w') f (listed.setIfInBounds j true) a' w' := by
    rintro a' w' ⟨I', ρ', hT', q1, q2, q3, _, q4⟩
    obtain ⟨k1, _⟩ := Ok.call (hc := hT) (hr := h) h1 q1
    have hsm : Sam (blks hT) w w' := ⟨q1.os, q1.tape, q1.output, q1.size, fun b hb hE => q1.keep b hb hE⟩
    refine ⟨hsm, FG (S := Sam (blks hT') w') (fun u hu => ?_) _ _ _ _ (q4.get hsh (inv.set hjr hjn) I' a' w' k1 q2 q3)⟩
    refine ⟨hu.os.trans hsm.os, hu.tape.trans hsm.tape, hu.output.trans hsm.output, Nat.le_trans hsm.size hu.size, fun b hb hE => (hu.block b (Nat.lt_of_lt_of_le hb hsm.size) fun hm => ?_).trans (hsm.block b hb hE)⟩
    rcases q1.new b hm with hx | hx
    · exact hE hx
    · exact absurd hb (Nat.not_lt.2 hx)
   have hQ : ∀ e a' w', e ≠ .normal → ¬ lift ⟨k.P, ⟨w, I, blks hT, k.c.G⟩, k.n, k.df⟩ (fun e ρ' hT' => e = .normal ∧ JH k ops n f (listed.setIfInBounds j true) l2 0 n false Q hT' ρ' h) e a' w' := by
    rintro e a' w' he ⟨_, _, _, _, _, _, q, _⟩
    exact he q
   rw [wpList] at H
   by_cases hw : Region.wanted o (yielded ops a.tmps) = true
   · rw [if_pos hw] at H ⊢
     rcases H with H | ⟨_, a', w', H⟩
     · exact .inl (GI hK hQ H)
     · exact absurd H (hQ _ _ _ (by simp))
   · rw [if_neg hw] at H ⊢
     exact hK _ _ H
 · rw [if_pos (hw _)]
   refine .inl (hB I a w _ _ h1 h2 fun v w' I' k1 k2 hsm => ?_)
   refine ⟨hsm, FG (S := Sam (blks hT) w') (fun u hu => ?_) _ _ _ _ (hJ.get hsh (inv.set hjr hjn) I' _ w' k1 k2 (by rw [Act.defers_put]; exact h3))⟩
   exact ⟨hu.os.trans hsm.os, hu.tape.trans hsm.tape, hu.output.trans hsm.output, Nat.le_trans hsm.size hu.size, fun b hb hE => (hu.block b (Nat.lt_of_lt_of_le hb hsm.size) hE).trans (hsm.block b hb hE)⟩
end
theorem gN {k : Kx} {Q : Exit → Env → H → Prop} {ρ : Env} {h : H} {X : Type} {x : Code} {id : Nat} (S : X → Env) (G : X → H) (hx : J k x (IY id fun e ρ' h' => e = .normal ∧ ∃ y, VS ρ' h' (S y) (G y)) ρ h) (hq : ∀ y, Q .normal (S y) (G y)) : J k x (IY id Q) ρ h := by
 intro I a w h1 h2 h3
 refine wp_mono (hx I a w h1 h2 h3) ?_
 rintro e a' w' ⟨I', ρ', h', k1, k2, k3, hb⟩
 have key : ∀ e0 : Exit, (e0 = .normal ∧ ∃ y, VS ρ' h' (S y) (G y)) → ∃ I ρ h, Ok k.c I h w' ∧ SF k.n w' I ρ a' ∧ a'.defers = k.df ∧ Q .normal ρ h := by
  rintro e0 ⟨_, y, hv⟩
  obtain ⟨I'', k4, k5⟩ := hv k.c I' k.n a' w' k1 k2
  exact ⟨I'', S y, G y, k4, k5, k3, hq y⟩
 by_cases he : e = .exit id
 · subst he
   simp only [IY, if_true] at hb
   obtain ⟨I2, ρ2, h2, g1, g2, g3, g4⟩ := key .normal ⟨rfl, hb.2⟩
   exact ⟨I2, ρ2, h2, g1, g2, g3, by simp only [IY, if_true]; exact g4⟩
 · have hb2 : e = .normal ∧ ∃ y, VS ρ' h' (S y) (G y) := by
    cases e with
    | exit id' =>
      simp only [IY, if_neg (fun k : id' = id => he (by rw [k]))] at hb
      exact hb
    | _ => exact hb
   obtain ⟨rfl, hv⟩ := hb2
   obtain ⟨I2, ρ2, h2, g1, g2, g3, g4⟩ := key .normal ⟨rfl, hv⟩
   exact ⟨I2, ρ2, h2, g1, g2, g3, g4⟩
end Go.Av
namespace Go.Proofs.YtnlfhnbcdfdhgaaGreatDoor
open Go Go.Av
theorem fW : Eq7 Tryz.prog 33 := ⟨by kernel_rfl, fun a b c d e f g w => by
 have u3 := Tryz.underlying3
 have u4 := Tryz.underlying4
 rw [show (10000 : Nat) = 9999 + 1 from rfl, run_equalIn_agg w 9999 33 _ _ (by kernel_rfl) (by kernel_rfl)]
 simp only [Program.fieldsOf, Tryz.underlying33]
 go_simp
 try simp⟩
theorem fX {p q : Prop} (hp : p) (h : p → q := by
 apply cmp; (focus (first
  | (first
    | ((with_reducible apply HB); (focus exact mixed); (focus rfl); (focus ((repeat ((with_reducible apply Hd.cons); (focus rfl))); exact Hd.nil)); (focus ((repeat (with_reducible apply AU)); exact len_nil)); (focus (decide +kernel)))
    | ((with_reducible apply PU); (focus (decide +kernel)); (focus ((repeat (with_reducible apply App.cons)); exact App.nil)))
    | ((with_reducible apply Kk); (focus rfl); (focus (decide +kernel)); (focus exact ER); (focus rfl))
    | ((with_reducible apply Yf); (iterate 5 focus rfl); (focus (decide +kernel)); (focus exact ER); (focus rfl))
    | ((with_reducible apply Xj); (iterate 5 focus rfl); (focus (decide +kernel)); (focus rfl))
    | ((with_reducible apply jh_gu); (iterate 4 focus rfl); (focus (decide +kernel)); (focus rfl))
    | ((with_reducible apply MY); (iterate 4 focus rfl); (focus (decide +kernel)))
    | with_reducible apply Nu
    | with_reducible apply OF
    | ((with_reducible apply gJ); (focus (decide +kernel)); (focus (decide +kernel)))
    | with_reducible exact gH
    | ((with_reducible apply fV); (focus (decide +kernel)))
    | ((with_reducible apply gI); (focus rfl))
    | with_reducible apply SO
    )
  ))
 exact fun h => h) : q := h hp
end Go.Proofs.YtnlfhnbcdfdhgaaGreatDoor
