/- A bundle of this claim's own texts: N1 N6 N16. -/
import Derived.Test.YtajnpfgelpkijaaGreatDoorA4
import Derived.Test.YtajnpfgelpkijaaGreatDoorA5
import Derived.Test.YtajnpfgelpkijaaGreatDoorA7
import Derived.Test.YtajnpfgelpkijaaGreatDoorA10
import Derived.Test.YtajnpfgelpkijaaGreatDoorA12
import Derived.Test.YtajnpfgelpkijaaGreatDoorA15
import Derived.Test.YtajnpfgelpkijaaGreatDoorA16
import Derived.Test.YtajnpfgelpkijaaGreatDoorA18
import Derived.Test.YtajnpfgelpkijaaGreatDoorA25
import Derived.Test.YtajnpfgelpkijaaGreatDoorA39
import Derived.Test.YtajnpfgelpkijaaGreatDoorA40
import Derived.Test.YtajnpfgelpkijaaGreatDoorA41
import Derived.Test.YtajnpfgelpkijaaGreatDoorA43
set_option linter.unusedVariables false
set_option linter.unusedSimpArgs false
set_option maxRecDepth 100000
set_option maxHeartbeats 4000000
namespace Go.Proofs.YtajnpfgelpkijaaGreatDoor
open Go Go.Av Go.Sp
theorem GI : Cal Tryz.prog 59 := Cal.of Tryz.func59 (by kernel_rfl) (by kernel_rfl)
theorem Ov (m : Md) (l : List (List Fo)) (c : Int) : ACr Tryz.prog GP 59 [mdA m, .d (Bi l), .int c] (.tup [.d (Bv (Ku m l c).1), .int (Ku m l c).2]) := by
 have hP := cz m l
 have hV := YI m c
 have hfew := MB (m := m) (l := l)
 unfold Ku
 generalize CS m l = e1 at hP hfew ⊢
 generalize CW m c = q at hV ⊢
 obtain ⟨vs, e2⟩ := q
 dsimp only at hV ⊢
 refine AK (ts := [6, 7]) Tryz.f59.ntmps Tryz.func59 rfl rfl rfl (by simp [Tryz.ntmps59]) fun W I => ?_
 by_cases h1 : e1 ≠ 0
 · repeat' (first
    | refine ca Fy (hP) ?_
    | refine ca Dn (hV) ?_
    | exact True.intro | refine AJ ?_ | refine two ?_ ?_ | refine AG fun c_ => ?_
    | (refine imp fun hc => ?_) <;> try exact cx1 hc
    | refine all fun v_ => ?_)
   refine AO (VS.trans (VS.drop (List.nil_sublist _)) (Ft (t := 6) 1 1 rfl)) ?_
   ((with_reducible apply rq2); rfl; rfl; rfl)
   refine AD ?_
   rw [if_pos h1]; rfl
 rw [if_neg h1]
 replace h1 := Decidable.not_not.1 h1
 obtain ⟨_, hl6⟩ := hfew h1
 by_cases h2 : e2 ≠ 0
 · repeat' (first
    | refine ca Fy (hP) ?_
    | refine ca Dn (hV) ?_
    | exact True.intro | refine AJ ?_ | refine two ?_ ?_ | refine AG fun c_ => ?_
    | (refine imp fun hc => ?_) <;> try exact cx1 hc
    | refine all fun v_ => ?_)
   refine AO (VS.trans (VS.drop (List.nil_sublist _)) (Ft (t := 6) 1 1 rfl)) ?_
   ((with_reducible apply rq2); rfl; rfl; rfl)
   refine AD ?_
   rw [if_pos h2]; rfl
 rw [if_neg h2]
 repeat' (first
  | refine ca Fy (hP) ?_
  | refine ca Dn (hV) ?_
  | exact True.intro | refine AJ ?_ | refine two ?_ ?_ | refine AG fun c_ => ?_
  | (refine imp fun hc => ?_) <;> try exact cx1 hc
  | refine all fun v_ => ?_)
 refine AL (X := Nat × List Bool) (fun y => [(9, .d (AP vs)), (11, .val (.slice (some ⟨v_, 0, none⟩) l.length l.length)), (34, .d (Bi l)), (35, .int l.length), (36, .int y.1)]) (fun y => [.cells v_ 4 (y.2.map AV.bool)]) (fun y => y.1 ≤ l.length ∧ OY (SJ l vs) l.length y.1 y.2) (fun y => l.length - y.1) (0, List.replicate l.length false) ⟨Nat.zero_le _, OY.start _ _⟩ (VS.take (by exact AB) ?_) ?_
 · exact leD
 rintro ⟨i, row⟩ ⟨d1, d2⟩
 dsimp only at d1 d2 ⊢
 have dl := d2.len
 by_cases hi : i < l.length
 · have hE := Eval l[i] vs
   have hx := fun n e he => X2 (vs := vs) hi (n := n) (e := e) he
   generalize CL l[i] vs = q at hE hx
   obtain ⟨n, e⟩ := q
   dsimp only at hE
   have hx := hx n e rfl
   repeat' (first
    | refine ca D6 (hE) ?_
    | exact True.intro | refine AJ ?_ | refine two ?_ ?_ | refine AG fun c_ => ?_
    | (refine imp fun hc => ?_) <;> try exact cx1 hc
    | refine all fun v_ => ?_)
   all_goals
    refine ⟨(i + 1, row.set i _), ⟨by dsimp only; omega, d2.next ?_⟩, by dsimp only; omega, VS.of_le ?_⟩
    rotate_left
    · exact leD
    rw [hx]; simp_all
 obtain rfl : i = l.length := by omega
 have hr := d2.fin
 repeat' (first
  | exact True.intro | refine AJ ?_ | refine two ?_ ?_ | refine AG fun c_ => ?_
  | (refine imp fun hc => ?_) <;> try exact cx1 hc
  | refine all fun v_ => ?_)
 refine AO (vfz (t := 6) (f := N8) (h1 := []) 1 1 rfl rfl rfl (Es row) dl (fun _ => rfl) (by omega) (by omega)) ?_
 ((with_reducible apply rq2); rfl; rfl; rfl)
 refine AD ?_
 rw [hr]
theorem DB : Cal Tryz.prog 97 := Cal.of Tryz.func97 (by kernel_rfl) (by kernel_rfl)
theorem OO : Cal Tryz.prog 56 := Cal.of Tryz.func56 (by kernel_rfl) (by kernel_rfl)
theorem TO (t : Tk) : ACr Tryz.prog GP 97 [tkA t] (.int (BF t)) := by
 have hA := aB t.formula t.props.length
 have hfew := GG t.formula t.props.length
 unfold BF
 generalize Ak t.formula t.props.length = q at hA hfew ⊢
 obtain ⟨ps, e⟩ := q
 dsimp only at hA hfew ⊢
 have hp := dC hfew
 have hi : (1 : Int) * 2 ^ (ps.length : Int).toNat = ((2 ^ ps.length : Nat) : Int) := by simp
 refine AK (ts := [2]) Tryz.f97.ntmps Tryz.func97 rfl rfl rfl (by simp [Tryz.ntmps97]) fun W I => ?_
 have hin : Aj ((1 : Int) * 2 ^ (ps.length : Int).toNat) := by rw [hi]; generalize (2 ^ ps.length : Nat) = x at hp ⊢; unfold Aj; omega
 repeat' (first
  | refine ca CK (hA) ?_
  | exact True.intro | refine AJ ?_ | refine two ?_ ?_ | refine AG fun c_ => ?_
  | (refine imp fun hc => ?_) <;> try exact cx1 hc
  | refine all fun v_ => ?_)
 refine AO (VS.drop (List.nil_sublist _)) ?_
 ((with_reducible apply rq1); rfl; rfl)
 exact AD (by rw [← hi])
theorem dA (t : Tk) : ACr Tryz.prog GP 56 [tkA t] (.tup [.d (AN (BI t).1), .int (BI t).2]) := by
 have hP := Sh t
 unfold BI
 refine AK (ts := [2, 3]) Tryz.f56.ntmps Tryz.func56 rfl rfl rfl (by simp [Tryz.ntmps56]) fun W I => ?_
 by_cases h1 : A2 t ≠ 0
 · rw [if_pos h1]
   generalize A2 t = e at hP h1
   repeat' (first
    | refine ca DJ (hP) ?_
    | exact True.intro | refine AJ ?_ | refine two ?_ ?_ | refine AG fun c_ => ?_
    | (refine imp fun hc => ?_) <;> try exact cx1 hc
    | refine all fun v_ => ?_)
   refine AO (VS.trans (VS.drop (List.nil_sublist _)) (Ft (t := 2) 2 16 rfl)) ?_
   ((with_reducible apply rq2); rfl; rfl; rfl)
   exact AD rfl
 rw [if_neg h1]
 replace h1 := Decidable.not_not.1 h1
 rw [h1] at hP
 obtain ⟨a1, a2, a3⟩ := CA h1
 obtain ⟨f1, f2, f3⟩ := MS a3
 have gf := Hg a2
 have hpos := gf.pos
 have h60 := gf.h60
 have hF : ACr Tryz.prog GP 96 [mdA t.model] (.tup [.int (CR t.model), .int 0]) := by
  have h := gA t.model
  rw [f1] at h
  exact h
 have hL := Ov t.model t.props (CR t.model)
 have hM := TO t
 rw [Jm h1 f2 f3] at hL
 dsimp only at hL
 obtain ⟨m1, m2⟩ := FA t
 have hll := Hq t (CR t.model)
 have hin : ∀ n : Nat, n < BF t → BL t.formula (Bz t (CR t.model)) n = ((List.range t.formula.length).map (tAt t.formula (Bz t (CR t.model)) n), 0) := fun n hn => Hh h1 _ hll (by omega) (by omega)
 have hyes := fun n => TR (t := t) (n := n)
 have hno := fun n => VZ (t := t) (n := n)
 have hbl := MT t
 have hb0 : DV t 0 = [] := rfl
 generalize DV t = B at hyes hno hbl hb0 ⊢
 generalize Bz t (CR t.model) = lt at hL hll hin hyes hno
 generalize CR t.model = fst at hF hL f2 f3 hyes hno
 generalize BF t = N at hM m1 m2 hin ⊢
 repeat' (first
  | refine ca DJ (hP) ?_
  | refine ca WL (hF) ?_
  | refine ca GI (hL) ?_
  | refine ca DB (hM) ?_
  | exact True.intro | refine AJ ?_ | refine two ?_ ?_ | refine AG fun c_ => ?_
  | (refine imp fun hc => ?_) <;> try exact cx1 hc
  | refine all fun v_ => ?_)
 refine FQ (E := 105) (sz := 2) Fo.cells ?_
 refine AL (X := Nat × Sl) (fun y => [(1, .val (.pointer (some ⟨v_, 0, none⟩))), (5, .int fst), (7, .d (Bv lt)), (9, .val y.2.v), (34, .int N), (35, .int y.1)]) (fun y => [AF y.2.v 105 2 Fo.cells (B y.1), .cells v_ 29 [.d (Ba t.model.vars), .d (BH t.model.rules), .d (Bi t.props), .d (AN t.formula)]]) (fun y => y.1 ≤ N) (fun y => N - y.1) (0, Sl.nil) (Nat.zero_le _) (VS.take (by rw [hb0]; exact AB) ?_) ?_
 · exact leD
 rintro ⟨i, q⟩ hi
 dsimp only at hi ⊢
 have hbi := hbl i
 by_cases hil : i < N
 · have hT := PO t.formula lt i
   rw [hin i hil] at hT
   have hyes := hyes i
   have hno := hno i
   obtain ⟨rest, hr⟩ := RO hpos (tAt t.formula lt i)
   rw [hr] at hT
   dsimp only at hT
   cases hb : tAt t.formula lt i 0 with
   | true =>
     rw [hb] at hT
     have hno := hno hb
     repeat' (first
      | refine ca A3 (hT) ?_
      | ((with_reducible apply (Bm (f := Fo.cells) (u := ⟨fst, (i : Int)⟩))); (focus rfl); (focus rfl); (focus (with_reducible exact ElC.h)); (focus exact BT); (focus rfl); (focus rfl); (focus rfl); (focus rfl); (focus exact Ad); (focus exact Ad))
      | exact True.intro | refine AJ ?_ | refine two ?_ ?_ | refine AG fun c_ => ?_
      | (refine imp fun hc => ?_) <;> try exact cx1 hc
      | refine all fun v_ => ?_)
     refine ⟨(i + 1, q), by dsimp only; omega, by dsimp only; omega, VS.take (by dsimp only; rw [hno]; exact AB) ?_⟩
     exact leD
   | false =>
     rw [hb] at hT
     have hyes := hyes hb
     repeat' (first
      | refine ca A3 (hT) ?_
      | ((with_reducible apply (Bm (f := Fo.cells) (u := ⟨fst, (i : Int)⟩))); (focus rfl); (focus rfl); (focus (with_reducible exact ElC.h)); (focus exact BT); (focus rfl); (focus rfl); (focus rfl); (focus rfl); (focus exact Ad); (focus exact Ad))
      | exact True.intro | refine AJ ?_ | refine two ?_ ?_ | refine AG fun c_ => ?_
      | (refine imp fun hc => ?_) <;> try exact cx1 hc
      | refine all fun v_ => ?_)
     refine ⟨(i + 1, v_), by dsimp only; omega, by dsimp only; omega, VS.take (by dsimp only; rw [hyes]; exact AB) ?_⟩
     exact leD
 obtain rfl : i = N := by omega
 repeat' (first
  | exact True.intro | refine AJ ?_ | refine two ?_ ?_ | refine AG fun c_ => ?_
  | (refine imp fun hc => ?_) <;> try exact cx1 hc
  | refine all fun v_ => ?_)
 refine AO (VS.trans (Ci (t := 2) (eb := 16) rfl rfl (fun x => rfl) (by omega)) (VS.drop (List.nil_sublist _))) ?_
 ((with_reducible apply rq2); rfl; rfl; rfl)
 exact AD rfl
theorem Ht : Cal Tryz.prog 58 := Cal.of Tryz.func58 (by kernel_rfl) (by kernel_rfl)
theorem spK : WA Tryz.prog 105 spV :=
 SK Tryz.underlying105 (fun a b w => by
  have h := Z7.2 a.kind a.val b.kind b.val w
  have e : (a.kind == b.kind && a.val == b.val) = decide (a = b) := by
   by_cases k : a = b
   · subst k; simp
   · rw [decide_eq_false k]
     cases hh : (a.kind == b.kind && a.val == b.val) with
     | false => rfl
     | true => simp only [Bool.and_eq_true, beq_iff_eq] at hh; exact absurd (Fo.ext' hh.1 hh.2) k
  rw [e] at h
  exact h) fun e a w => by cases e <;> kernel_rfl
theorem Io (b : Fo) (w : World) (I : Nat → Prop) (v : Value) (h : AV.rel w I (.agg [.int b.kind, .int b.val]) v) : v = spV b := by
 obtain ⟨vs, e, r⟩ := h
 match vs, r with
 | [p, q], ⟨h1, h2, _⟩ => cases h1; cases h2; exact e
theorem N9 {P : Program} {G : List (Nat × List D)} {ρ : Env} {h : H} {dst : Option Tmp} {ty : TypeId} {pos : _root_.String} {after : Array Edge} {g : Option (Nat × Bool)} {α β : Type} [DecidableEq α] {kv : α → Value} {vv : β → Value} {T KT ET : TypeId} (K : WA P KT kv) {x y : Operand} {s : AV} {b : Nat} {ps : List (α × β)} {a : α} {z : Value} {sz eb : Nat} {c : β}
 (hx : evO ρ x = some (.val (.map (some b)))) (hy : evO ρ y = some s) (hs : ∀ w I v, AV.rel w I s v → v = kv a) (hT : P.underlying T = some (.map KT ET)) (hE : El P ET z sz eb) (hm : Ent.raw b (Ay (Ab kv vv ps)) ∈ h) (hg : getM ps a = some c) :
 Pure P G ⟨dst, .lookup T x y true, ty, pos, after, g⟩ ρ h (.tup [.val (vv c), .bool true]) := by
 have := QK (vv := vv) (dst := dst) (ty := ty) (pos := pos) (after := after) (g := g) (G := G) K hx hy hs hT hE hm
 rwa [hg] at this
theorem Hk {P : Program} {G : List (Nat × List D)} {ρ : Env} {h : H} {dst : Option Tmp} {ty : TypeId} {pos : _root_.String} {after : Array Edge} {g : Option (Nat × Bool)} {α β : Type} [DecidableEq α] {kv : α → Value} {vv : β → Value} {T KT ET : TypeId} (K : WA P KT kv) {x y : Operand} {s : AV} {b : Nat} {ps : List (α × β)} {a : α} {z : Value} {sz eb : Nat}
 (hx : evO ρ x = some (.val (.map (some b)))) (hy : evO ρ y = some s) (hs : ∀ w I v, AV.rel w I s v → v = kv a) (hT : P.underlying T = some (.map KT ET)) (hE : El P ET z sz eb) (hm : Ent.raw b (Ay (Ab kv vv ps)) ∈ h) (hg : getM ps a = none) :
 Pure P G ⟨dst, .lookup T x y true, ty, pos, after, g⟩ ρ h (.tup [.val z, .bool false]) := by
 have := QK (vv := vv) (dst := dst) (ty := ty) (pos := pos) (after := after) (g := g) (G := G) K hx hy hs hT hE hm
 rwa [hg] at this
theorem V9 (ba bm : Nat) (q : Sl) (init many : Int) (a2 a3 : AV) (sp : List Fo) (b : Fo) (hb : b ∈ sp) :
 AC Tryz.prog GP 58 [.val (.pointer (some ⟨ba, 0, none⟩)), .agg [.int b.kind, .int b.val]] [.cells ba 133 [.val q.v, .int init, a2, a3, .int many, .val (.map (some bm))], AF q.v 105 2 Fo.cells sp, .raw bm (Ay (Ab spV Fe (HM sp)))] fun e h => ∃ _ : Unit, e = .ret (.tup [.int (plc b sp), .bool true]) ∧ h = [.cells ba 133 [.val q.v, .int init, a2, a3, .int many, .val (.map (some bm))], AF q.v 105 2 Fo.cells sp, .raw bm (Ay (Ab spV Fe (HM sp)))] := by
 have hg := cC hb
 refine AK (ts := [4, 5]) Tryz.f58.ntmps Tryz.func58 rfl rfl rfl (by simp [Tryz.ntmps58]) fun W I => ?_
 repeat' (first
  | ((with_reducible apply jqp); (focus ((with_reducible apply (N9 (vv := Fe) (a := b) spK)); (focus rfl); (focus rfl); (focus exact Io b); (focus rfl); (focus (with_reducible exact ElC.h)); (focus exact Ai); (focus assumption))); (focus rfl))
  | ((with_reducible apply jp); (focus ((with_reducible apply (N9 (vv := Fe) (a := b) spK)); (focus rfl); (focus rfl); (focus exact Io b); (focus rfl); (focus (with_reducible exact ElC.h)); (focus exact Ai); (focus assumption))); (focus rfl))
  | exact True.intro | refine AM ?_ | refine two ?_ ?_
  | (refine imp fun hc => ?_) <;> try exact cx hc
  | refine all fun v_ => ?_)
 refine AO (VS.take (hc := [.cells ba 133 [.val q.v, .int init, a2, a3, .int many, .val (.map (some bm))], AF q.v 105 2 Fo.cells sp, .raw bm (Ay (Ab spV Fe (HM sp)))]) (by exact AB) (Env.le_refl _)) ?_
 ((with_reducible apply rq2); rfl; rfl; rfl)
 exact ⟨(), rfl, rfl⟩
theorem NS (ba bm : Nat) (q : Sl) (init many : Int) (a2 a3 : AV) (sp : List Fo) (b : Fo) (hb : b ∉ sp) (hl : sp.length < 20000) :
 AC Tryz.prog GP 58 [.val (.pointer (some ⟨ba, 0, none⟩)), .agg [.int b.kind, .int b.val]] [.cells ba 133 [.val q.v, .int init, a2, a3, .int many, .val (.map (some bm))], AF q.v 105 2 Fo.cells sp, .raw bm (Ay (Ab spV Fe (HM sp)))] fun e h => ∃ p : Sl, e = .ret (.tup [.int (plc b sp), .bool true]) ∧ h = [.cells ba 133 [.val p.v, .int init, a2, a3, .int many, .val (.map (some bm))], AF p.v 105 2 Fo.cells (sp ++ [b]), .raw bm (Ay (Ab spV Fe (HM (sp ++ [b]))))] := by
 have hg := RJ hb
 refine AK (ts := [4, 5]) Tryz.f58.ntmps Tryz.func58 rfl rfl rfl (by simp [Tryz.ntmps58]) fun W I => ?_
 repeat' (first
  | ((with_reducible apply jqp); (focus ((with_reducible apply (Hk (vv := Fe) (a := b) spK)); (focus rfl); (focus rfl); (focus exact Io b); (focus rfl); (focus (with_reducible exact ElC.h)); (focus exact Ai); (focus assumption))); (focus rfl))
  | ((with_reducible apply jp); (focus ((with_reducible apply (Hk (vv := Fe) (a := b) spK)); (focus rfl); (focus rfl); (focus exact Io b); (focus rfl); (focus (with_reducible exact ElC.h)); (focus exact Ai); (focus assumption))); (focus rfl))
  | ((with_reducible apply (aS spK (vv := Fe) (a := b) (c := sp.length))); (focus rfl); (focus rfl); (focus exact Io b); (focus rfl); (focus exact fun _ _ _ h => h); (focus rfl); (focus exact B6); (focus assumption))
  | exact True.intro | refine stpB ?_ | refine two ?_ ?_ | refine AG fun c_ => ?_
  | (refine imp fun hc => ?_) <;> try exact cx hc
  | refine all fun v_ => ?_)
 refine ⟨?_⟩
 refine BC [AF q.v 105 2 Fo.cells sp] mixed rfl (by (repeat ((with_reducible apply Hd.cons); (focus rfl))); exact Hd.nil) (by (repeat (with_reducible apply Aa)); exact len_nil) (by decide +kernel) (by exact AS) ?_
 repeat' (first
  | ((with_reducible apply (Bm (f := Fo.cells) (u := b))); (focus rfl); (focus rfl); (focus (with_reducible exact ElC.h)); (focus exact BT); (focus rfl); (focus rfl); (focus rfl); (focus rfl); (focus exact Ad); (focus exact Ad))
  | exact True.intro | refine AJ ?_ | refine two ?_ ?_ | refine AG fun c_ => ?_
  | (refine imp fun hc => ?_) <;> try exact cx1 hc
  | refine all fun v_ => ?_)
 have e1 := Uo hb
 rw [XG, e1]
 refine AO (VS.take (hc := [.cells ba 133 [.val v_.v, .int init, a2, a3, .int many, .val (.map (some bm))], AF v_.v 105 2 Fo.cells (sp ++ [b]), .raw bm (Ay (Ab spV Fe (HM sp ++ [(b, sp.length)])))]) (by exact AB) (Env.le_refl _)) ?_
 ((with_reducible apply rq2); rfl; rfl; rfl)
 exact ⟨v_, rfl, rfl⟩
theorem Tr (ba bm : Nat) (q : Sl) (init many : Int) (a2 a3 : AV) (sp : List Fo) (b : Fo) (hb : b ∉ sp) (hl : sp.length = 20000) :
 AC Tryz.prog GP 58 [.val (.pointer (some ⟨ba, 0, none⟩)), .agg [.int b.kind, .int b.val]] [.cells ba 133 [.val q.v, .int init, a2, a3, .int many, .val (.map (some bm))], AF q.v 105 2 Fo.cells sp, .raw bm (Ay (Ab spV Fe (HM sp)))] fun e h => ∃ _ : Unit, e = .ret (.tup [.int 0, .bool false]) ∧ h = [.cells ba 133 [.val q.v, .int init, a2, a3, .int many, .val (.map (some bm))], AF q.v 105 2 Fo.cells sp, .raw bm (Ay (Ab spV Fe (HM sp)))] := by
 have hg := RJ hb
 refine AK (ts := [4, 5]) Tryz.f58.ntmps Tryz.func58 rfl rfl rfl (by simp [Tryz.ntmps58]) fun W I => ?_
 repeat' (first
  | ((with_reducible apply jqp); (focus ((with_reducible apply (Hk (vv := Fe) (a := b) spK)); (focus rfl); (focus rfl); (focus exact Io b); (focus rfl); (focus (with_reducible exact ElC.h)); (focus exact Ai); (focus assumption))); (focus rfl))
  | ((with_reducible apply jp); (focus ((with_reducible apply (Hk (vv := Fe) (a := b) spK)); (focus rfl); (focus rfl); (focus exact Io b); (focus rfl); (focus (with_reducible exact ElC.h)); (focus exact Ai); (focus assumption))); (focus rfl))
  | exact True.intro | refine AM ?_ | refine two ?_ ?_
  | (refine imp fun hc => ?_) <;> try exact cx hc
  | refine all fun v_ => ?_)
 refine AO (VS.take (hc := [.cells ba 133 [.val q.v, .int init, a2, a3, .int many, .val (.map (some bm))], AF q.v 105 2 Fo.cells sp, .raw bm (Ay (Ab spV Fe (HM sp)))]) (by exact AB) (Env.le_refl _)) ?_
 ((with_reducible apply rq2); rfl; rfl; rfl)
 exact ⟨(), rfl, rfl⟩
end Go.Proofs.YtajnpfgelpkijaaGreatDoor
