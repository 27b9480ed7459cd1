/- A bundle of this claim's own texts: N16 G27. -/
import Derived.Test.YtniklgkoiaeipaaGreatDoorD2
import Derived.Test.YtniklgkoiaeipaaGreatDoorD21
set_option linter.unusedVariables false
set_option linter.unusedSimpArgs false
set_option maxRecDepth 100000
set_option maxHeartbeats 4000000
namespace Go.Proofs.YtniklgkoiaeipaaGreatDoor
open Go Go.Av Go.Sp
theorem cal_place : Cal Tryz.prog 44 := Cal.of Tryz.func44 (by kernel_rfl) (by kernel_rfl)
theorem spK : KeyF Tryz.prog 98 spV :=
 keyF_struct Tryz.underlying98 (fun a b w => by
  have h := eq2_Spot.2 a.kind a.val b.kind b.val w
  have e : (a.kind == b.kind && a.val == b.val) = decide (a = b) := by
   by_cases k : a = b
   · subst k; simp
   · rw [decide_eq_false k]
     cases hh : (a.kind == b.kind && a.val == b.val) with
     | false => rfl
     | true => simp only [Bool.and_eq_true, beq_iff_eq] at hh; exact absurd (Fo.ext' hh.1 hh.2) k
  rw [e] at h
  exact h) fun e a w => by cases e <;> kernel_rfl
theorem sp_rel (b : Fo) (w : World) (I : Nat → Prop) (v : Value) (h : AV.rel w I (.agg [.int b.kind, .int b.val]) v) : v = spV b := by
 obtain ⟨vs, e, r⟩ := h
 match vs, r with
 | [p, q], ⟨h1, h2, _⟩ => cases h1; cases h2; exact e
theorem pu_lookF2 {P : Program} {G : List (Nat × List D)} {ρ : Env} {h : H} {dst : Option Tmp} {ty : TypeId} {pos : String} {after : Array Edge} {g : Option (Nat × Bool)} {α β : Type} [DecidableEq α] {kv : α → Value} {vv : β → Value} {T KT ET : TypeId} (K : KeyF P KT kv) {x y : Operand} {s : AV} {b : Nat} {ps : List (α × β)} {a : α} {z : Value} {sz eb : Nat} {c : β}
 (hx : evO ρ x = some (.val (.map (some b)))) (hy : evO ρ y = some s) (hs : ∀ w I v, AV.rel w I s v → v = kv a) (hT : P.underlying T = some (.map KT ET)) (hE : El P ET z sz eb) (hm : Ent.raw b (mapO (entL kv vv ps)) ∈ h) (hg : getM ps a = some c) :
 Pure P G ⟨dst, .lookup T x y true, ty, pos, after, g⟩ ρ h (.tup [.val (vv c), .bool true]) := by
 have := pu_lookF (vv := vv) (dst := dst) (ty := ty) (pos := pos) (after := after) (g := g) (G := G) K hx hy hs hT hE hm
 rwa [hg] at this
theorem pu_lookF0 {P : Program} {G : List (Nat × List D)} {ρ : Env} {h : H} {dst : Option Tmp} {ty : TypeId} {pos : String} {after : Array Edge} {g : Option (Nat × Bool)} {α β : Type} [DecidableEq α] {kv : α → Value} {vv : β → Value} {T KT ET : TypeId} (K : KeyF P KT kv) {x y : Operand} {s : AV} {b : Nat} {ps : List (α × β)} {a : α} {z : Value} {sz eb : Nat}
 (hx : evO ρ x = some (.val (.map (some b)))) (hy : evO ρ y = some s) (hs : ∀ w I v, AV.rel w I s v → v = kv a) (hT : P.underlying T = some (.map KT ET)) (hE : El P ET z sz eb) (hm : Ent.raw b (mapO (entL kv vv ps)) ∈ h) (hg : getM ps a = none) :
 Pure P G ⟨dst, .lookup T x y true, ty, pos, after, g⟩ ρ h (.tup [.val z, .bool false]) := by
 have := pu_lookF (vv := vv) (dst := dst) (ty := ty) (pos := pos) (after := after) (g := g) (G := G) K hx hy hs hT hE hm
 rwa [hg] at this
theorem place_old (ba bm : Nat) (q : Sl) (init many : Int) (a2 a3 : AV) (sp : List Fo) (b : Fo) (hb : b ∈ sp) :
 AC Tryz.prog GP 44 [.val (.pointer (some ⟨ba, 0, none⟩)), .agg [.int b.kind, .int b.val]] [.cells ba 96 [.val q.v, .int init, a2, a3, .int many, .val (.map (some bm))], rowE q.v 98 2 Fo.cells sp, .raw bm (mapO (entL spV natV (plcs sp)))] fun e h => ∃ _ : Unit, e = .ret (.tup [.int (plc b sp), .bool true]) ∧ h = [.cells ba 96 [.val q.v, .int init, a2, a3, .int many, .val (.map (some bm))], rowE q.v 98 2 Fo.cells sp, .raw bm (mapO (entL spV natV (plcs sp)))] := by
 have hg := getM_in hb
 refine AC_ofV (ts := [4, 5]) Tryz.f44.ntmps Tryz.func44 rfl rfl rfl (by simp [Tryz.ntmps44]) fun W I => ?_
 repeat' (first
  | ((with_reducible apply jqp); (focus ((with_reducible apply (pu_lookF2 (vv := natV) (a := b) spK)); (focus rfl); (focus rfl); (focus exact sp_rel b); (focus rfl); (focus (with_reducible exact ElC.h)); (focus exact memD); (focus assumption))); (focus rfl))
  | ((with_reducible apply jp); (focus ((with_reducible apply (pu_lookF2 (vv := natV) (a := b) spK)); (focus rfl); (focus rfl); (focus exact sp_rel b); (focus rfl); (focus (with_reducible exact ElC.h)); (focus exact memD); (focus assumption))); (focus rfl))
  | exact True.intro | refine stpA ?_ | refine two ?_ ?_
  | (refine imp fun hc => ?_) <;> try exact cx hc
  | refine all fun v_ => ?_)
 refine retv (VS.take (hc := [.cells ba 96 [.val q.v, .int init, a2, a3, .int many, .val (.map (some bm))], rowE q.v 98 2 Fo.cells sp, .raw bm (mapO (entL spV natV (plcs sp)))]) (by exact takedD) (Env.le_refl _)) ?_
 ((with_reducible apply rq2); rfl; rfl; rfl)
 exact ⟨(), rfl, rfl⟩
theorem place_new (ba bm : Nat) (q : Sl) (init many : Int) (a2 a3 : AV) (sp : List Fo) (b : Fo) (hb : b ∉ sp) (hl : sp.length < 20000) :
 AC Tryz.prog GP 44 [.val (.pointer (some ⟨ba, 0, none⟩)), .agg [.int b.kind, .int b.val]] [.cells ba 96 [.val q.v, .int init, a2, a3, .int many, .val (.map (some bm))], rowE q.v 98 2 Fo.cells sp, .raw bm (mapO (entL spV natV (plcs sp)))] fun e h => ∃ p : Sl, e = .ret (.tup [.int (plc b sp), .bool true]) ∧ h = [.cells ba 96 [.val p.v, .int init, a2, a3, .int many, .val (.map (some bm))], rowE p.v 98 2 Fo.cells (sp ++ [b]), .raw bm (mapO (entL spV natV (plcs (sp ++ [b]))))] := by
 have hg := getM_out hb
 refine AC_ofV (ts := [4, 5]) Tryz.f44.ntmps Tryz.func44 rfl rfl rfl (by simp [Tryz.ntmps44]) fun W I => ?_
 repeat' (first
  | ((with_reducible apply jqp); (focus ((with_reducible apply (pu_lookF0 (vv := natV) (a := b) spK)); (focus rfl); (focus rfl); (focus exact sp_rel b); (focus rfl); (focus (with_reducible exact ElC.h)); (focus exact memD); (focus assumption))); (focus rfl))
  | ((with_reducible apply jp); (focus ((with_reducible apply (pu_lookF0 (vv := natV) (a := b) spK)); (focus rfl); (focus rfl); (focus exact sp_rel b); (focus rfl); (focus (with_reducible exact ElC.h)); (focus exact memD); (focus assumption))); (focus rfl))
  | ((with_reducible apply (js_putF spK (vv := natV) (a := b) (c := sp.length))); (focus rfl); (focus rfl); (focus exact sp_rel b); (focus rfl); (focus exact fun _ _ _ h => h); (focus rfl); (focus exact updD); (focus assumption))
  | exact True.intro | refine stpB ?_ | refine two ?_ ?_ | refine allc fun c_ => ?_
  | (refine imp fun hc => ?_) <;> try exact cx hc
  | refine all fun v_ => ?_)
 refine ⟨?_⟩
 refine J_region_HB [rowE q.v 98 2 Fo.cells sp] mixed rfl (by (repeat ((with_reducible apply Hd.cons); (focus rfl))); exact Hd.nil) (by (repeat (with_reducible apply len_cons)); exact len_nil) (by decide +kernel) (by exact takeD) ?_
 repeat' (first
  | ((with_reducible apply (japU1 (f := Fo.cells) (u := b))); (focus rfl); (focus rfl); (focus (with_reducible exact ElC.h)); (focus exact updqD); (focus rfl); (focus rfl); (focus rfl); (focus rfl); (focus exact bndD); (focus exact bndD))
  | exact True.intro | refine stpH ?_ | refine two ?_ ?_ | refine allc fun c_ => ?_
  | (refine imp fun hc => ?_) <;> try exact cx1 hc
  | refine all fun v_ => ?_)
 have e1 := plc_out hb
 rw [plcs_snoc, e1]
 refine retv (VS.take (hc := [.cells ba 96 [.val v_.v, .int init, a2, a3, .int many, .val (.map (some bm))], rowE v_.v 98 2 Fo.cells (sp ++ [b]), .raw bm (mapO (entL spV natV (plcs sp ++ [(b, sp.length)])))]) (by exact takedD) (Env.le_refl _)) ?_
 ((with_reducible apply rq2); rfl; rfl; rfl)
 exact ⟨v_, rfl, rfl⟩
theorem place_full (ba bm : Nat) (q : Sl) (init many : Int) (a2 a3 : AV) (sp : List Fo) (b : Fo) (hb : b ∉ sp) (hl : sp.length = 20000) :
 AC Tryz.prog GP 44 [.val (.pointer (some ⟨ba, 0, none⟩)), .agg [.int b.kind, .int b.val]] [.cells ba 96 [.val q.v, .int init, a2, a3, .int many, .val (.map (some bm))], rowE q.v 98 2 Fo.cells sp, .raw bm (mapO (entL spV natV (plcs sp)))] fun e h => ∃ _ : Unit, e = .ret (.tup [.int 0, .bool false]) ∧ h = [.cells ba 96 [.val q.v, .int init, a2, a3, .int many, .val (.map (some bm))], rowE q.v 98 2 Fo.cells sp, .raw bm (mapO (entL spV natV (plcs sp)))] := by
 have hg := getM_out hb
 refine AC_ofV (ts := [4, 5]) Tryz.f44.ntmps Tryz.func44 rfl rfl rfl (by simp [Tryz.ntmps44]) fun W I => ?_
 repeat' (first
  | ((with_reducible apply jqp); (focus ((with_reducible apply (pu_lookF0 (vv := natV) (a := b) spK)); (focus rfl); (focus rfl); (focus exact sp_rel b); (focus rfl); (focus (with_reducible exact ElC.h)); (focus exact memD); (focus assumption))); (focus rfl))
  | ((with_reducible apply jp); (focus ((with_reducible apply (pu_lookF0 (vv := natV) (a := b) spK)); (focus rfl); (focus rfl); (focus exact sp_rel b); (focus rfl); (focus (with_reducible exact ElC.h)); (focus exact memD); (focus assumption))); (focus rfl))
  | exact True.intro | refine stpA ?_ | refine two ?_ ?_
  | (refine imp fun hc => ?_) <;> try exact cx hc
  | refine all fun v_ => ?_)
 refine retv (VS.take (hc := [.cells ba 96 [.val q.v, .int init, a2, a3, .int many, .val (.map (some bm))], rowE q.v 98 2 Fo.cells sp, .raw bm (mapO (entL spV natV (plcs sp)))]) (by exact takedD) (Env.le_refl _)) ?_
 ((with_reducible apply rq2); rfl; rfl; rfl)
 exact ⟨(), rfl, rfl⟩
end Go.Proofs.YtniklgkoiaeipaaGreatDoor
namespace Go.Sp
open Go Go.Av

theorem rndF_snoc (b : Fo) : ∀ (bs sp : List Fo), rndF sp (bs ++ [b]) = (addS (rndF sp bs).1 b, (rndF sp bs).2 ++ [(plc b (rndF sp bs).1 : Int)])
 | [], sp => by simp [rndF]
 | c :: bs, sp => by
   rw [List.cons_append, rndF, rndF_snoc b bs]
   simp [rndF]
theorem rndF_take (bs sp : List Fo) (k : Nat) (h : k < bs.length) : rndF sp (bs.take (k + 1)) = (addS (rndF sp (bs.take k)).1 bs[k], (rndF sp (bs.take k)).2 ++ [(plc bs[k] (rndF sp (bs.take k)).1 : Int)]) := by
 rw [List.take_succ_eq_append_getElem h, rndF_snoc]
theorem rndF_grow (bs sp : List Fo) : ∀ (k d : Nat), (rndF sp (bs.take k)).1.length ≤ (rndF sp (bs.take (k + d))).1.length
 | k, 0 => Nat.le_refl _
 | k, d + 1 => by
   refine Nat.le_trans (rndF_grow bs sp k d) ?_
   by_cases h : k + d < bs.length
   · rw [← Nat.add_assoc, rndF_take bs sp (k + d) h]; exact addS_len _ _
   · rw [List.take_of_length_le (by omega), List.take_of_length_le (by omega)]; exact Nat.le_refl _
structure GoneI (t : Tk) (i : Nat) : Prop where
 task : taskF t = 0
 room : ∀ j, j < i → j < (spF t j).length ∧ (spF t (j + 1)).length ≤ 20000
theorem begin_few (t : Tk) : (beginF t).1.length ≤ 64 := by
 unfold beginF
 split
 · exact Nat.zero_le _
 · exact Nat.le_trans (beginL_len t _) (claims_few t).2
theorem GoneI.few {t : Tk} {i : Nat} (g : GoneI t i) : (spF t i).length ≤ 20000 := by
 cases i with
 | zero => have := begin_few t; rw [spF]; omega
 | succ i => exact (g.room i (by omega)).2
theorem GoneI.le {t : Tk} {i : Nat} (g : GoneI t i) : i ≤ (spF t i).length := by
 cases i with
 | zero => exact Nat.zero_le _
 | succ i =>
   have h1 := (g.room i (by omega)).1
   have h2 := spF_le t (i := i) (j := i + 1) (by omega)
   omega
theorem spF_next {t : Tk} {i : Nat} (h : i < (spF t i).length) : spF t (i + 1) = (rndF (spF t i) (behindF t (spF t i)[i].kind (spF t i)[i].val).1).1 ∧ plF t i = (rndF (spF t i) (behindF t (spF t i)[i].kind (spF t i)[i].val).1).2 ∧ seF t i = (meetsOf t.formula (letF t.model t.props (spF t i)[i].kind).1 (spF t i)[i].val).1 := by
 rw [spF, plF, seF, List.getElem?_eq_getElem h]
 exact ⟨rfl, rfl, rfl⟩
theorem GoneI.next {t : Tk} {i : Nat} (g : GoneI t i) (h : i < (spF t i).length) (hl : (spF t (i + 1)).length ≤ 20000) : GoneI t (i + 1) :=
 ⟨g.task, fun j hj => by
  by_cases e : j = i
  · subst e; exact ⟨h, hl⟩
  · exact g.room j (by omega)⟩
theorem expF_run (t : Tk) : ∀ (d f i : Nat) (nx : List (List Int)) (st : List Int), d < f → (∀ j, j < d → i + j < (spF t (i + j)).length ∧ (spF t (i + j + 1)).length ≤ 20000) →
 expF t f i (spF t i) nx st = expF t (f - d) (i + d) (spF t (i + d)) (nx ++ (List.range d).map (fun j => plF t (i + j))) (st ++ (List.range d).map (fun j => seF t (i + j)))
 | 0, f, i, nx, st, _, _ => by simp
 | d + 1, f, i, nx, st, hf, h => by
   obtain ⟨f', rfl⟩ : ∃ f', f = f' + 1 := ⟨f - 1, by omega⟩
   have h0 := h 0 (by omega)
   rw [Nat.add_zero] at h0
   obtain ⟨e1, e2, e3⟩ := spF_next h0.1
   rw [expF_at t f' i _ nx st h0.1 (by rw [← e1]; omega), ← e1, ← e2, ← e3]
   rw [expF_run t d f' (i + 1) _ _ (by omega) (fun j hj => by
    have := h (j + 1) (by omega)
    rw [show i + (j + 1) = i + 1 + j by omega] at this
    exact this)]
   rw [show f' + 1 - (d + 1) = f' - d by omega, show i + 1 + d = i + (d + 1) by omega]
   congr 1
   · rw [List.append_assoc]
     congr 1
     rw [List.range_succ_eq_map, List.map_cons, List.map_map]
     simp only [List.singleton_append, Nat.add_zero, List.cons.injEq, true_and]
     exact List.map_congr_left fun j _ => by show _ = plF t (i + (j + 1)); rw [show i + (j + 1) = i + 1 + j by omega]
   · rw [List.append_assoc]
     congr 1
     rw [List.range_succ_eq_map, List.map_cons, List.map_map]
     simp only [List.singleton_append, Nat.add_zero, List.cons.injEq, true_and]
     exact List.map_congr_left fun j _ => by show _ = seF t (i + (j + 1)); rw [show i + (j + 1) = i + 1 + j by omega]
theorem GoneI.run {t : Tk} {i : Nat} (g : GoneI t i) : expF t 20002 0 (beginF t).1 [] [] = expF t (20002 - i) i (spF t i) ((List.range i).map (plF t)) ((List.range i).map (seF t)) := by
 have h1 := g.le
 have h2 := g.few
 have := expF_run t i 20002 0 [] [] (by omega) (fun j hj => by rw [Nat.zero_add]; exact g.room j hj)
 simp only [Nat.zero_add, List.nil_append] at this
 exact this
theorem GoneI.all {t : Tk} {i : Nat} (g : GoneI t i) (h : (spF t i).length ≤ i) : exploreF t = (some ⟨spF t i, (List.range i).map (plF t), (List.range i).map (seF t)⟩, 0) := by
 have h1 := g.le
 have h2 := g.few
 unfold exploreF
 rw [if_neg (fun k => k g.task), g.run]
 obtain ⟨f, hf⟩ : ∃ f, 20002 - i = f + 1 := ⟨20001 - i, by omega⟩
 rw [hf, expF_end t f i _ _ _ h]
theorem GoneI.full {t : Tk} {i : Nat} (g : GoneI t i) (h : i < (spF t i).length) (hl : 20000 < (rndF (spF t i) (behindF t (spF t i)[i].kind (spF t i)[i].val).1).1.length) : exploreF t = (none, 12) := by
 have h2 := g.few
 unfold exploreF
 rw [if_neg (fun k => k g.task), g.run]
 obtain ⟨f, hf⟩ : ∃ f, 20002 - i = f + 1 := ⟨20001 - i, by omega⟩
 rw [hf, expF_full t f i _ _ _ h hl]
noncomputable def exG (t : Tk) : Gr := match (exploreF t).1 with
 | none => ⟨[], 0, [], [], 0⟩
 | some e => ⟨e.spots, (beginF t).1.length, e.next, e.sets, (aheadsOf t.formula t.props.length).1.length⟩
theorem behind_few (t : Tk) (st cl : Int) (hm : modelF t.model = 0) : (behindF t st cl).1.length ≤ 262144 := by
 unfold behindF
 split
 · exact Nat.zero_le _
 · split
   · exact Nat.zero_le _
   · have h1 := behL_len t st cl (nextF t.model st).1
     have h2 := nextF_len hm st
     dsimp only
     omega
end Go.Sp
