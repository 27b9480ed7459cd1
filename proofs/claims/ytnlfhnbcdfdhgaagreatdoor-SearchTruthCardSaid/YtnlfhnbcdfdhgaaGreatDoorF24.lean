/- A bundle of this claim's own texts: N16. -/
import Derived.Test.YtnlfhnbcdfdhgaaGreatDoorF16
import Derived.Test.YtnlfhnbcdfdhgaaGreatDoorF18
set_option linter.unusedVariables false
set_option linter.unusedSimpArgs false
set_option maxRecDepth 100000
set_option maxHeartbeats 4000000
namespace Go.Proofs.YtnlfhnbcdfdhgaaGreatDoor
open Go Go.Av Go.Sp
theorem Hn : Cal Tryz.prog 46 := Cal.of Tryz.func46 (by kernel_rfl) (by kernel_rfl)
theorem spK : VQ Tryz.prog 106 spV :=
 QV Tryz.underlying106 (fun a b w => by
  have h := Xe.2 a.kind a.val b.kind b.val w
  have e : (a.kind == b.kind && a.val == b.val) = decide (a = b) := by
   by_cases k : a = b
   · subst k; simp
   · rw [decide_eq_false k]
     cases hh : (a.kind == b.kind && a.val == b.val) with
     | false => rfl
     | true => simp only [Bool.and_eq_true, beq_iff_eq] at hh; exact absurd (Fo.ext' hh.1 hh.2) k
  rw [e] at h
  exact h) fun e a w => by cases e <;> kernel_rfl
theorem IG (b : Fo) (w : World) (I : Nat → Prop) (v : Value) (h : AV.rel w I (.agg [.int b.kind, .int b.val]) v) : v = spV b := by
 obtain ⟨vs, e, r⟩ := h
 match vs, r with
 | [p, q], ⟨h1, h2, _⟩ => cases h1; cases h2; exact e
theorem NK {P : Program} {G : List (Nat × List D)} {ρ : Env} {h : H} {dst : Option Tmp} {ty : TypeId} {pos : String} {after : Array Edge} {g : Option (Nat × Bool)} {α β : Type} [DecidableEq α] {kv : α → Value} {vv : β → Value} {T KT ET : TypeId} (K : VQ P KT kv) {x y : Operand} {s : AV} {b : Nat} {ps : List (α × β)} {a : α} {z : Value} {sz eb : Nat} {c : β}
 (hx : evO ρ x = some (.val (.map (some b)))) (hy : evO ρ y = some s) (hs : ∀ w I v, AV.rel w I s v → v = kv a) (hT : P.underlying T = some (.map KT ET)) (hE : El P ET z sz eb) (hm : Ent.raw b (A1 (Ac kv vv ps)) ∈ h) (hg : getM ps a = some c) :
 Pure P G ⟨dst, .lookup T x y true, ty, pos, after, g⟩ ρ h (.tup [.val (vv c), .bool true]) := by
 have := Rh (vv := vv) (dst := dst) (ty := ty) (pos := pos) (after := after) (g := g) (G := G) K hx hy hs hT hE hm
 rwa [hg] at this
theorem Hq {P : Program} {G : List (Nat × List D)} {ρ : Env} {h : H} {dst : Option Tmp} {ty : TypeId} {pos : String} {after : Array Edge} {g : Option (Nat × Bool)} {α β : Type} [DecidableEq α] {kv : α → Value} {vv : β → Value} {T KT ET : TypeId} (K : VQ P KT kv) {x y : Operand} {s : AV} {b : Nat} {ps : List (α × β)} {a : α} {z : Value} {sz eb : Nat}
 (hx : evO ρ x = some (.val (.map (some b)))) (hy : evO ρ y = some s) (hs : ∀ w I v, AV.rel w I s v → v = kv a) (hT : P.underlying T = some (.map KT ET)) (hE : El P ET z sz eb) (hm : Ent.raw b (A1 (Ac kv vv ps)) ∈ h) (hg : getM ps a = none) :
 Pure P G ⟨dst, .lookup T x y true, ty, pos, after, g⟩ ρ h (.tup [.val z, .bool false]) := by
 have := Rh (vv := vv) (dst := dst) (ty := ty) (pos := pos) (after := after) (g := g) (G := G) K hx hy hs hT hE hm
 rwa [hg] at this
theorem Uu (ba bm : Nat) (q : Sl) (init many : Int) (a2 a3 : AV) (sp : List Fo) (b : Fo) (hb : b ∈ sp) :
 AC Tryz.prog GP 46 [.val (.pointer (some ⟨ba, 0, none⟩)), .agg [.int b.kind, .int b.val]] [.cells ba 104 [.val q.v, .int init, a2, a3, .int many, .val (.map (some bm))], AH q.v 106 2 Fo.cells sp, .raw bm (A1 (Ac spV Fu (HK sp)))] fun e h => ∃ _ : Unit, e = .ret (.tup [.int (plc b sp), .bool true]) ∧ h = [.cells ba 104 [.val q.v, .int init, a2, a3, .int many, .val (.map (some bm))], AH q.v 106 2 Fo.cells sp, .raw bm (A1 (Ac spV Fu (HK sp)))] := by
 have hg := bD hb
 refine AJ (ts := [4, 5]) Tryz.f46.ntmps Tryz.func46 rfl rfl rfl (by simp [Tryz.ntmps46]) fun W I => ?_
 repeat' (first
  | ((with_reducible apply jqp); (focus ((with_reducible apply (NK (vv := Fu) (a := b) spK)); (focus rfl); (focus rfl); (focus exact IG b); (focus rfl); (focus (with_reducible exact ElC.h)); (focus exact Ab); (focus assumption))); (focus rfl))
  | ((with_reducible apply jp); (focus ((with_reducible apply (NK (vv := Fu) (a := b) spK)); (focus rfl); (focus rfl); (focus exact IG b); (focus rfl); (focus (with_reducible exact ElC.h)); (focus exact Ab); (focus assumption))); (focus rfl))
  | exact True.intro | refine AP ?_ | refine two ?_ ?_
  | (refine imp fun hc => ?_) <;> try exact cx hc
  | refine all fun v_ => ?_)
 refine AN (VS.take (hc := [.cells ba 104 [.val q.v, .int init, a2, a3, .int many, .val (.map (some bm))], AH q.v 106 2 Fo.cells sp, .raw bm (A1 (Ac spV Fu (HK sp)))]) (by exact AD) (Env.le_refl _)) ?_
 ((with_reducible apply rq2); rfl; rfl; rfl)
 exact ⟨(), rfl, rfl⟩
theorem NT (ba bm : Nat) (q : Sl) (init many : Int) (a2 a3 : AV) (sp : List Fo) (b : Fo) (hb : b ∉ sp) (hl : sp.length < 20000) :
 AC Tryz.prog GP 46 [.val (.pointer (some ⟨ba, 0, none⟩)), .agg [.int b.kind, .int b.val]] [.cells ba 104 [.val q.v, .int init, a2, a3, .int many, .val (.map (some bm))], AH q.v 106 2 Fo.cells sp, .raw bm (A1 (Ac spV Fu (HK sp)))] fun e h => ∃ p : Sl, e = .ret (.tup [.int (plc b sp), .bool true]) ∧ h = [.cells ba 104 [.val p.v, .int init, a2, a3, .int many, .val (.map (some bm))], AH p.v 106 2 Fo.cells (sp ++ [b]), .raw bm (A1 (Ac spV Fu (HK (sp ++ [b]))))] := by
 have hg := QH hb
 refine AJ (ts := [4, 5]) Tryz.f46.ntmps Tryz.func46 rfl rfl rfl (by simp [Tryz.ntmps46]) fun W I => ?_
 repeat' (first
  | ((with_reducible apply jqp); (focus ((with_reducible apply (Hq (vv := Fu) (a := b) spK)); (focus rfl); (focus rfl); (focus exact IG b); (focus rfl); (focus (with_reducible exact ElC.h)); (focus exact Ab); (focus assumption))); (focus rfl))
  | ((with_reducible apply jp); (focus ((with_reducible apply (Hq (vv := Fu) (a := b) spK)); (focus rfl); (focus rfl); (focus exact IG b); (focus rfl); (focus (with_reducible exact ElC.h)); (focus exact Ab); (focus assumption))); (focus rfl))
  | ((with_reducible apply (bF spK (vv := Fu) (a := b) (c := sp.length))); (focus rfl); (focus rfl); (focus exact IG b); (focus rfl); (focus exact fun _ _ _ h => h); (focus rfl); (focus exact CI); (focus assumption))
  | exact True.intro | refine cb ?_ | refine two ?_ ?_ | refine AF fun c_ => ?_
  | (refine imp fun hc => ?_) <;> try exact cx hc
  | refine all fun v_ => ?_)
 refine ⟨?_⟩
 refine Bn [AH q.v 106 2 Fo.cells sp] mixed rfl (by (repeat ((with_reducible apply Hd.cons); (focus rfl))); exact Hd.nil) (by (repeat (with_reducible apply AU)); exact len_nil) (by decide +kernel) (by exact AW) ?_
 repeat' (first
  | ((with_reducible apply (BX (f := Fo.cells) (u := b))); (focus rfl); (focus rfl); (focus (with_reducible exact ElC.h)); (focus exact BS); (focus rfl); (focus rfl); (focus rfl); (focus rfl); (focus exact Af); (focus exact Af))
  | exact True.intro | refine AG ?_ | refine two ?_ ?_ | refine AF fun c_ => ?_
  | (refine imp fun hc => ?_) <;> try exact cx1 hc
  | refine all fun v_ => ?_)
 have e1 := Tc hb
 rw [Uc, e1]
 refine AN (VS.take (hc := [.cells ba 104 [.val v_.v, .int init, a2, a3, .int many, .val (.map (some bm))], AH v_.v 106 2 Fo.cells (sp ++ [b]), .raw bm (A1 (Ac spV Fu (HK sp ++ [(b, sp.length)])))]) (by exact AD) (Env.le_refl _)) ?_
 ((with_reducible apply rq2); rfl; rfl; rfl)
 exact ⟨v_, rfl, rfl⟩
theorem SL (ba bm : Nat) (q : Sl) (init many : Int) (a2 a3 : AV) (sp : List Fo) (b : Fo) (hb : b ∉ sp) (hl : sp.length = 20000) :
 AC Tryz.prog GP 46 [.val (.pointer (some ⟨ba, 0, none⟩)), .agg [.int b.kind, .int b.val]] [.cells ba 104 [.val q.v, .int init, a2, a3, .int many, .val (.map (some bm))], AH q.v 106 2 Fo.cells sp, .raw bm (A1 (Ac spV Fu (HK sp)))] fun e h => ∃ _ : Unit, e = .ret (.tup [.int 0, .bool false]) ∧ h = [.cells ba 104 [.val q.v, .int init, a2, a3, .int many, .val (.map (some bm))], AH q.v 106 2 Fo.cells sp, .raw bm (A1 (Ac spV Fu (HK sp)))] := by
 have hg := QH hb
 refine AJ (ts := [4, 5]) Tryz.f46.ntmps Tryz.func46 rfl rfl rfl (by simp [Tryz.ntmps46]) fun W I => ?_
 repeat' (first
  | ((with_reducible apply jqp); (focus ((with_reducible apply (Hq (vv := Fu) (a := b) spK)); (focus rfl); (focus rfl); (focus exact IG b); (focus rfl); (focus (with_reducible exact ElC.h)); (focus exact Ab); (focus assumption))); (focus rfl))
  | ((with_reducible apply jp); (focus ((with_reducible apply (Hq (vv := Fu) (a := b) spK)); (focus rfl); (focus rfl); (focus exact IG b); (focus rfl); (focus (with_reducible exact ElC.h)); (focus exact Ab); (focus assumption))); (focus rfl))
  | exact True.intro | refine AP ?_ | refine two ?_ ?_
  | (refine imp fun hc => ?_) <;> try exact cx hc
  | refine all fun v_ => ?_)
 refine AN (VS.take (hc := [.cells ba 104 [.val q.v, .int init, a2, a3, .int many, .val (.map (some bm))], AH q.v 106 2 Fo.cells sp, .raw bm (A1 (Ac spV Fu (HK sp)))]) (by exact AD) (Env.le_refl _)) ?_
 ((with_reducible apply rq2); rfl; rfl; rfl)
 exact ⟨(), rfl, rfl⟩
end Go.Proofs.YtnlfhnbcdfdhgaaGreatDoor
