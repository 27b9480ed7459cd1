/- Own texts. -/
import Derived.Test.YtnlfhnbcdfdhgaaGreatDoorA24
set_option linter.unusedVariables false
set_option linter.unusedSimpArgs false
set_option maxRecDepth 100000
set_option maxHeartbeats 4000000
namespace Go.Proofs.YtnlfhnbcdfdhgaaGreatDoor
open Go Go.Av Go.Sp
theorem JS : Cal Tryz.prog 46 := Cal.of Tryz.func46 (by kernel_rfl) (by kernel_rfl)
theorem OI : Cal Tryz.prog 64 := Cal.of Tryz.func64 (by kernel_rfl) (by kernel_rfl)
theorem spK : XV Tryz.prog 106 spV :=
 Tl Tryz.underlying106 (fun a b w => by
  have h := B9.2 a.kind a.val b.kind b.val w
  have e : (a.kind == b.kind && a.val == b.val) = decide (a = b) := by
   by_cases k : a = b
   · subst k; simp
   · rw [decide_eq_false k]
     cases hh : (a.kind == b.kind && a.val == b.val) with
     | false => rfl
     | true => simp only [Bool.and_eq_true, beq_iff_eq] at hh; exact absurd (Fo.ext' hh.1 hh.2) k
  rw [e] at h
  exact h) fun e a w => by cases e <;> kernel_rfl
theorem KI (b : Fo) (w : World) (I : Nat → Prop) (v : Value) (h : AV.rel w I (.agg [.int b.kind, .int b.val]) v) : v = spV b := by
 obtain ⟨vs, e, r⟩ := h
 match vs, r with
 | [p, q], ⟨h1, h2, _⟩ => cases h1; cases h2; exact e
theorem PS {P : Program} {G : List (Nat × List D)} {ρ : Env} {h : H} {dst : Option Tmp} {ty : TypeId} {pos : String} {after : Array Edge} {g : Option (Nat × Bool)} {α β : Type} [DecidableEq α] {kv : α → Value} {vv : β → Value} {T KT ET : TypeId} (K : XV P KT kv) {x y : Operand} {s : AV} {b : Nat} {ps : List (α × β)} {a : α} {z : Value} {sz eb : Nat} {c : β}
 (hx : evO ρ x = some (.val (.map (some b)))) (hy : evO ρ y = some s) (hs : ∀ w I v, AV.rel w I s v → v = kv a) (hT : P.underlying T = some (.map KT ET)) (hE : El P ET z sz eb) (hm : Ent.raw b (BT (Am kv vv ps)) ∈ h) (hg : getM ps a = some c) :
 Pure P G ⟨dst, .lookup T x y true, ty, pos, after, g⟩ ρ h (.tup [.val (vv c), .bool true]) := by
 have := R0 (vv := vv) (dst := dst) (ty := ty) (pos := pos) (after := after) (g := g) (G := G) K hx hy hs hT hE hm
 rwa [hg] at this
theorem JC {P : Program} {G : List (Nat × List D)} {ρ : Env} {h : H} {dst : Option Tmp} {ty : TypeId} {pos : String} {after : Array Edge} {g : Option (Nat × Bool)} {α β : Type} [DecidableEq α] {kv : α → Value} {vv : β → Value} {T KT ET : TypeId} (K : XV P KT kv) {x y : Operand} {s : AV} {b : Nat} {ps : List (α × β)} {a : α} {z : Value} {sz eb : Nat}
 (hx : evO ρ x = some (.val (.map (some b)))) (hy : evO ρ y = some s) (hs : ∀ w I v, AV.rel w I s v → v = kv a) (hT : P.underlying T = some (.map KT ET)) (hE : El P ET z sz eb) (hm : Ent.raw b (BT (Am kv vv ps)) ∈ h) (hg : getM ps a = none) :
 Pure P G ⟨dst, .lookup T x y true, ty, pos, after, g⟩ ρ h (.tup [.val z, .bool false]) := by
 have := R0 (vv := vv) (dst := dst) (ty := ty) (pos := pos) (after := after) (g := g) (G := G) K hx hy hs hT hE hm
 rwa [hg] at this
theorem Wp (ba bm : Nat) (q : Sl) (init many : Int) (a2 a3 : AV) (sp : List Fo) (b : Fo) (hb : b ∈ sp) :
 AC Tryz.prog GP 46 [.val (.pointer (some ⟨ba, 0, none⟩)), .agg [.int b.kind, .int b.val]] [.cells ba 104 [.val q.v, .int init, a2, a3, .int many, .val (.map (some bm))], AL q.v 106 2 Fo.cells sp, .raw bm (BT (Am spV Gx (IM sp)))] fun e h => ∃ _ : Unit, e = .ret (.tup [.int (plc b sp), .bool true]) ∧ h = [.cells ba 104 [.val q.v, .int init, a2, a3, .int many, .val (.map (some bm))], AL q.v 106 2 Fo.cells sp, .raw bm (BT (Am spV Gx (IM sp)))] := by
 have hg := dQ hb
 refine AK (ts := [4, 5]) Tryz.f46.ntmps Tryz.func46 rfl rfl rfl (by simp [Tryz.ntmps46]) fun W I => ?_
 repeat' (first | ((with_reducible apply jqp); (focus ((with_reducible apply (PS (vv := Gx) (a := b) spK)); rfl; rfl; (focus exact KI b); rfl; (with_reducible exact ElC.h); exact AW; assumption)); rfl) | ((with_reducible apply jp); (focus ((with_reducible apply (PS (vv := Gx) (a := b) spK)); rfl; rfl; (focus exact KI b); rfl; (with_reducible exact ElC.h); exact AW; assumption)); rfl) | exact jA | refine AP ?_ | refine two ?_ ?_ | refine imp fun hc => ?_; try exact cx hc | refine all fun v_ => ?_)
 refine AI (VS.take (hc := [.cells ba 104 [.val q.v, .int init, a2, a3, .int many, .val (.map (some bm))], AL q.v 106 2 Fo.cells sp, .raw bm (BT (Am spV Gx (IM sp)))]) AH (Env.le_refl _)) ?_
 ((with_reducible apply rq2); rfl; rfl; rfl)
 exact ⟨(), rfl, rfl⟩
theorem iu {p q : Prop} (hp : p) (h : p → q := by
 apply cmp; (focus ((with_reducible apply jqp); (focus ((with_reducible apply (JC (vv := Gx) (a := b) spK)); rfl; rfl; (focus exact KI b); rfl; (with_reducible exact ElC.h); exact AW; assumption)); rfl))
 exact fun h => h) : q := h hp
theorem iv {p q : Prop} (hp : p) (h : p → q := by
 apply cmp; (focus ((with_reducible apply jp); (focus ((with_reducible apply (JC (vv := Gx) (a := b) spK)); rfl; rfl; (focus exact KI b); rfl; (with_reducible exact ElC.h); exact AW; assumption)); rfl))
 exact fun h => h) : q := h hp
theorem PT (ba bm : Nat) (q : Sl) (init many : Int) (a2 a3 : AV) (sp : List Fo) (b : Fo) (hb : b ∉ sp) (hl : sp.length < 20000) :
 AC Tryz.prog GP 46 [.val (.pointer (some ⟨ba, 0, none⟩)), .agg [.int b.kind, .int b.val]] [.cells ba 104 [.val q.v, .int init, a2, a3, .int many, .val (.map (some bm))], AL q.v 106 2 Fo.cells sp, .raw bm (BT (Am spV Gx (IM sp)))] fun e h => ∃ p : Sl, e = .ret (.tup [.int (plc b sp), .bool true]) ∧ h = [.cells ba 104 [.val p.v, .int init, a2, a3, .int many, .val (.map (some bm))], AL p.v 106 2 Fo.cells (sp ++ [b]), .raw bm (BT (Am spV Gx (IM (sp ++ [b]))))] := by
 have hg := SN hb
 refine AK (ts := [4, 5]) Tryz.f46.ntmps Tryz.func46 rfl rfl rfl (by simp [Tryz.ntmps46]) fun W I => ?_
 repeat' (first | refine iu ?_ | refine iv ?_ | ((with_reducible apply (dO spK (vv := Gx) (a := b) (c := sp.length))); rfl; rfl; (focus exact KI b); rfl; exact fun _ _ _ h => h; rfl; exact Cm; assumption) | exact jA | refine fz ?_ | refine two ?_ ?_ | refine AB fun c_ => ?_ | refine imp fun hc => ?_; try exact cx hc | refine all fun v_ => ?_)
 refine ⟨?_⟩
 refine CL [AL q.v 106 2 Fo.cells sp] mixed rfl (by (repeat ((with_reducible apply Hd.cons); rfl)); exact Hd.nil) (by (repeat (with_reducible apply Al)); exact len_nil) (by decide +kernel) BF ?_
 repeat' (first | refine i7 (DP (f := Fo.cells) (u := b)) ?_ | exact jA | refine AF ?_ | refine two ?_ ?_ | refine AB fun c_ => ?_ | refine imp fun hc => ?_; try exact cx1 hc | refine all fun v_ => ?_)
 have e1 := MC hb
 rw [XA, e1]
 refine AI (VS.take (hc := [.cells ba 104 [.val v_.v, .int init, a2, a3, .int many, .val (.map (some bm))], AL v_.v 106 2 Fo.cells (sp ++ [b]), .raw bm (BT (Am spV Gx (IM sp ++ [(b, sp.length)])))]) AH (Env.le_refl _)) ?_
 ((with_reducible apply rq2); rfl; rfl; rfl)
 exact ⟨v_, rfl, rfl⟩
theorem UP (ba bm : Nat) (q : Sl) (init many : Int) (a2 a3 : AV) (sp : List Fo) (b : Fo) (hb : b ∉ sp) (hl : sp.length = 20000) :
 AC Tryz.prog GP 46 [.val (.pointer (some ⟨ba, 0, none⟩)), .agg [.int b.kind, .int b.val]] [.cells ba 104 [.val q.v, .int init, a2, a3, .int many, .val (.map (some bm))], AL q.v 106 2 Fo.cells sp, .raw bm (BT (Am spV Gx (IM sp)))] fun e h => ∃ _ : Unit, e = .ret (.tup [.int 0, .bool false]) ∧ h = [.cells ba 104 [.val q.v, .int init, a2, a3, .int many, .val (.map (some bm))], AL q.v 106 2 Fo.cells sp, .raw bm (BT (Am spV Gx (IM sp)))] := by
 have hg := SN hb
 refine AK (ts := [4, 5]) Tryz.f46.ntmps Tryz.func46 rfl rfl rfl (by simp [Tryz.ntmps46]) fun W I => ?_
 repeat' (first | refine iu ?_ | refine iv ?_ | exact jA | refine AP ?_ | refine two ?_ ?_ | refine imp fun hc => ?_; try exact cx hc | refine all fun v_ => ?_)
 refine AI (VS.take (hc := [.cells ba 104 [.val q.v, .int init, a2, a3, .int many, .val (.map (some bm))], AL q.v 106 2 Fo.cells sp, .raw bm (BT (Am spV Gx (IM sp)))]) AH (Env.le_refl _)) ?_
 ((with_reducible apply rq2); rfl; rfl; rfl)
 exact ⟨(), rfl, rfl⟩
theorem Vv {P : Program} {G : List (Nat × List D)} {ρ : Env} {h : H} {dst : Option Tmp} {ty : TypeId} {pos : String} {after : Array Edge} {g : Option (Nat × Bool)} {T T' : TypeId} {x y : Operand} {a b : Fo} (hT : Eq2 P T) (hx : evO ρ x = some (.agg [.int a.kind, .int a.val])) (hy : evO ρ y = some (.agg [.int b.kind, .int b.val])) :
 Pure P G ⟨dst, .binOp .eql T x y T', ty, pos, after, g⟩ ρ h (.bool (decide (a = b))) := by
 have e : decide (a = b) = (a.kind == b.kind && a.val == b.val) := by
  by_cases k : a = b
  · subst k; simp
  · rw [decide_eq_false k]
    cases hh : (a.kind == b.kind && a.val == b.val) with
    | false => rfl
    | true => simp only [Bool.and_eq_true, beq_iff_eq] at hh; exact absurd (Fo.ext' hh.1 hh.2) k
 rw [e]
 exact Ah fun w I _ s k => ⟨_, rfl, fun w' => by
  obtain ⟨vs, e1, r1⟩ := BI (k.ev x) (AD hx)
  obtain ⟨us, e2, r2⟩ := BI (k.ev y) (AD hy)
  obtain ⟨rfl⟩ : vs = [.int .i64 a.kind, .int .i64 a.val] := by
   match vs, r1 with
   | [p, q], ⟨h1, h2, _⟩ => cases h1; cases h2; rfl
  obtain ⟨rfl⟩ : us = [.int .i64 b.kind, .int .i64 b.val] := by
   match us, r2 with
   | [p, q], ⟨h1, h2, _⟩ => cases h1; cases h2; rfl
  simp [execOp, e1, e2, run_eqGuard_agg _ _ _ _ _ _ _ hT.1, run_eql_struct, hT.2]⟩
theorem GW {P : Program} {G : List (Nat × List D)} {ρ : Env} {h : H} {dst : Option Tmp} {ty : TypeId} {pos : String} {after : Array Edge} {g : Option (Nat × Bool)} {T T' : TypeId} {x y : Operand} {a b : Fo} (hT : Eq2 P T) (hx : evO ρ x = some (.agg [.int a.kind, .int a.val])) (hy : evO ρ y = some (.agg [.int b.kind, .int b.val])) (he : a = b) :
 Pure P G ⟨dst, .binOp .eql T x y T', ty, pos, after, g⟩ ρ h (.bool true) := by
 have := Vv (G := G) (h := h) (dst := dst) (ty := ty) (pos := pos) (after := after) (g := g) (T' := T') hT hx hy
 rwa [decide_eq_true he] at this
theorem GS {P : Program} {G : List (Nat × List D)} {ρ : Env} {h : H} {dst : Option Tmp} {ty : TypeId} {pos : String} {after : Array Edge} {g : Option (Nat × Bool)} {T T' : TypeId} {x y : Operand} {a b : Fo} (hT : Eq2 P T) (hx : evO ρ x = some (.agg [.int a.kind, .int a.val])) (hy : evO ρ y = some (.agg [.int b.kind, .int b.val])) (he : ¬ a = b) :
 Pure P G ⟨dst, .binOp .eql T x y T', ty, pos, after, g⟩ ρ h (.bool false) := by
 have := Vv (G := G) (h := h) (dst := dst) (ty := ty) (pos := pos) (after := after) (g := g) (T' := T') hT hx hy
 rwa [decide_eq_false he] at this
theorem YM (b : Fo) (sp : List Fo) (i : Nat) (h : i < sp.length) : plc b (sp.drop i) = if sp[i] = b then 0 else plc b (sp.drop (i + 1)) + 1 := by
 rw [ja h, plc]
theorem il {p q : Prop} (hp : p) (h : p → q := by
 apply cmp; (focus ((with_reducible apply jqp); (focus ((with_reducible apply (GW B9)); rfl; rfl; assumption)); rfl))
 exact fun h => h) : q := h hp
theorem im {p q : Prop} (hp : p) (h : p → q := by
 apply cmp; (focus ((with_reducible apply jqp); (focus ((with_reducible apply (GS B9)); rfl; rfl; assumption)); rfl))
 exact fun h => h) : q := h hp
theorem iq {p q : Prop} (hp : p) (h : p → q := by
 apply cmp; (focus ((with_reducible apply jp); (focus ((with_reducible apply (GW B9)); rfl; rfl; assumption)); rfl))
 exact fun h => h) : q := h hp
theorem ir {p q : Prop} (hp : p) (h : p → q := by
 apply cmp; (focus ((with_reducible apply jp); (focus ((with_reducible apply (GS B9)); rfl; rfl; assumption)); rfl))
 exact fun h => h) : q := h hp
theorem fQ (G : List (Nat × List D)) (sp : List Fo) (b : Fo) (hl : sp.length ≤ 1000000) : ACr Tryz.prog G 64 [.d (AO sp), .agg [.int b.kind, .int b.val]] (.int (if b ∈ sp then (plc b sp : Int) else -1)) := by
 refine AK (ts := [4]) Tryz.f64.ntmps Tryz.func64 rfl rfl rfl (by simp [Tryz.ntmps64]) fun W I => ?_
 repeat' (first | refine il ?_ | refine im ?_ | refine iq ?_ | refine ir ?_ | exact jA | refine AP ?_ | refine two ?_ ?_ | refine imp fun hc => ?_; try exact cx hc | refine all fun v_ => ?_)
 obtain ⟨bs, rfl⟩ : ∃ x, x = v_ := ⟨v_, rfl⟩
 refine AG (X := Nat) (fun i => [(0, .d (AO sp)), (3, .val (.pointer (some ⟨bs, 0, none⟩))), (5, .int i)]) (fun _ => [.cells bs 106 [.int b.kind, .int b.val]]) (fun i => i ≤ sp.length ∧ plc b sp = i + plc b (sp.drop i) ∧ (b ∈ sp ↔ b ∈ sp.drop i)) (fun i => sp.length - i) 0 ⟨Nat.zero_le _, by simp, by simp⟩ (VS.of_le ?_) ?_
 · exact leD
 rintro i ⟨h1, h2, h3⟩
 by_cases hi : i < sp.length
 · rw [YM b sp i hi] at h2
   by_cases he : sp[i] = b
   · rw [if_pos he] at h2
     have hm : b ∈ sp := by rw [← he]; exact jb hi
     repeat' (first | refine il ?_ | refine im ?_ | refine iq ?_ | refine ir ?_ | exact jA | refine AP ?_ | refine two ?_ ?_ | refine imp fun hc => ?_; try exact cx hc | refine all fun v_ => ?_)
     refine AI jE ?_
     ((with_reducible apply rq1); rfl; rfl)
     exact AA (by rw [if_pos hm, h2]; rfl)
   · rw [if_neg he] at h2
     have hm : b ∈ sp ↔ b ∈ sp.drop (i + 1) := by
      rw [h3, ja hi, List.mem_cons]
      exact ⟨fun k => k.resolve_left fun e => he e.symm, .inr⟩
     repeat' (first | refine il ?_ | refine im ?_ | refine iq ?_ | refine ir ?_ | exact jA | refine AP ?_ | refine two ?_ ?_ | refine imp fun hc => ?_; try exact cx hc | refine all fun v_ => ?_)
     refine ⟨i + 1, ⟨hi, by omega, hm⟩, by omega, VS.of_le ?_⟩
     exact leD
 have hm : b ∉ sp := by rw [h3, List.drop_of_length_le jB]; exact List.not_mem_nil
 repeat' (first | refine il ?_ | refine im ?_ | refine iq ?_ | refine ir ?_ | exact jA | refine AP ?_ | refine two ?_ ?_ | refine imp fun hc => ?_; try exact cx hc | refine all fun v_ => ?_)
 refine AI jE ?_
 ((with_reducible apply rq1); rfl; rfl)
 exact AA (by rw [if_neg hm])
end Go.Proofs.YtnlfhnbcdfdhgaaGreatDoor
