/- A bundle of this claim's own texts: E10 TopS. -/
import Derived.Test.YtajnpfgelpkijaaGreatDoorCards
import Derived.Test.YtajnpfgelpkijaaGreatDoorTie
import Derived.WalkKit
import Derived.ProofKit
import Derived.OpenShut
import Derived.Deep.DeepHandedRow
import Derived.Lib.LaidTab
import Derived.Test.YtajnpfgelpkijaaGreatDoorA2
import Derived.Test.YtajnpfgelpkijaaGreatDoorA7
set_option linter.unusedVariables false
set_option linter.unusedSimpArgs false
set_option maxRecDepth 100000
set_option maxHeartbeats 4000000
namespace Go.Av
open Go Go.Instr

structure Qu where
 g : Nat
 off : Nat
 c : Nat
 pre : List AV
 post : List AV
abbrev Qu.v (q : Qu) (n : Nat) : Value := .slice (some ⟨q.g, q.off, none⟩) n q.c
abbrev quE (E : TypeId) (q : Qu) (xs : List Int) : Ent := .cells q.g E (q.pre ++ xs.map AV.int ++ q.post)
structure Qu.Ok (q : Qu) (n : Nat) : Prop where
 pre : q.pre.length = q.off
 lo : n ≤ q.c
 hi : q.c ≤ n + q.post.length
def Qu.tl (q : Qu) (x : Int) : Qu := if q.c = 1 then ⟨q.g, q.off, 0, q.pre, .int x :: q.post⟩ else ⟨q.g, q.off + 1, q.c - 1, q.pre ++ [.int x], q.post⟩
theorem dY (E : TypeId) (q : Qu) (x : Int) (t : List Int) (ok : q.Ok (t.length + 1)) : quE E (q.tl x) t = quE E q (x :: t) := by
 unfold Qu.tl
 by_cases h : q.c = 1
 · have h1 := ok.lo
   obtain rfl : t = [] := List.length_eq_zero_iff.1 (by omega)
   rw [if_pos h]; simp [quE]
 · rw [if_neg h]; simp [quE]
theorem Qu.Ok.tl {q : Qu} {x : Int} {n : Nat} (ok : q.Ok (n + 1)) : (q.tl x).Ok n := by
 obtain ⟨h1, h2, h3⟩ := ok
 unfold Qu.tl
 by_cases h : q.c = 1
 · rw [if_pos h]; exact ⟨h1, by dsimp only; omega, by simp⟩
 · rw [if_neg h]; exact ⟨by simp [h1], by dsimp only; omega, by dsimp only; omega⟩
theorem bN (q : Qu) (x : Int) (t : List Int) (ok : q.Ok (t.length + 1)) : (q.pre ++ (x :: t).map AV.int ++ q.post)[q.off]? = some (.int x) := by
 rw [← ok.pre, List.append_assoc, List.getElem?_append_right (Nat.le_refl _), Nat.sub_self]; rfl
section
variable {P : Program} {G : List (Nat × List D)} {ρ : Env} {h : H} {dst : Option Tmp} {ty : TypeId} {pos : String} {after : Array Edge} {g : Option (Nat × Bool)}
theorem ZG {T E : TypeId} {x lo : Operand} {q : Qu} {n : Nat} {z : Value} {eb : Nat} (a : Int) (hx : evO ρ x = some (.val (q.v (n + 1)))) (hlo : evO ρ lo = some (.int 1)) (hT : P.underlying T = some (.slice E)) (hE : El P E z 1 eb) (ok : q.Ok (n + 1)) :
 Pure P G ⟨dst, .slice T x (some lo) none none, ty, pos, after, g⟩ ρ h (.val ((q.tl a).v n)) :=
 AZ fun w I _ ac k => by
  have e1 := AI (k.ev x) (AA hx)
  have e2 := AI (k.ev lo) (AA hlo)
  obtain ⟨i, hi, _, hsz, _⟩ := hE.get
  refine ⟨_, rfl, fun w' => ?_⟩
  have hlo := ok.lo
  unfold Qu.tl
  by_cases hc : q.c = 1
  · obtain rfl : n = 0 := by omega
    rw [if_pos hc]
    simp [execOp, e1, e2, hc, Instr.sliceAt, run_underlying hT, Instr.slice, Instr.sliceBounds, Instr.sliceBound, asIntOf, sizeOf, typeInfo, hi, hsz]
  · rw [if_neg hc]
    have h1 : ¬ ((q.c : Int) - 1 = 0) := by omega
    have h2 : (1 : Int) ≤ n + 1 := by omega
    have h3 : ((n : Int) + 1) ≤ q.c := by omega
    simp [execOp, e1, e2, hc, Instr.sliceAt, run_underlying hT, Instr.slice, Instr.sliceBounds, Instr.sliceBound, asIntOf, sizeOf, typeInfo, hi, hsz, Addr.add_lit]
    intro hh; omega
theorem VX {T E : TypeId} {x y : Operand} {q : Qu} {n : Nat} {z : Value} {eb : Nat} (hx : evO ρ x = some (.val (q.v n))) (hy : evO ρ y = some (.int 0)) (hT : P.underlying T = some (.slice E)) (hE : El P E z 1 eb) (h1 : 0 < n) :
 Pure P G ⟨dst, .indexAddr T x y, ty, pos, after, g⟩ ρ h (.val (.pointer (some ⟨q.g, q.off, none⟩))) :=
 AZ fun w I _ ac k => by
  have e1 := AI (k.ev x) (AA hx)
  have e2 := AI (k.ev y) (AA hy)
  obtain ⟨i, hi, _, hsz, _⟩ := hE.get
  refine ⟨_, rfl, fun w' => ?_⟩
  have h2 : (0 : Int) < n := by omega
  simp [execOp, e1, e2, Instr.indexAt, run_underlying hT, asIntOf, h2, h1, sizeOf, typeInfo, hi, hsz, Addr.add_lit]
end
section
variable {k : Kx} {Q : Exit → Env → H → Prop} {ρ : Env} {h h' : H} {ops : Array Oper} {l : List Oper} {d : Nat} {ty : TypeId} {pos : String} {after : Array Edge}
theorem cc {x : Code} {q : Sl} {xs : List Int} {E : TypeId} {h1 h2 : H} (hn : 0 < xs.length) (hj : ∀ q' : Qu, q'.Ok xs.length → q.v = q'.v xs.length → J k x Q ρ (h1 ++ quE E q' xs :: h2)) : J k x Q ρ (h1 ++ AF q.v E 1 Sp.Ag xs :: h2) := by
 intro I a w k1 k2 k3
 obtain ⟨g, cap, cur, rfl, hg, hnc, hcm, hcs, hrel⟩ := Ent.row_form (k1.ent (AF q.v E 1 Sp.Ag xs) (by simp)) hn
 rw [Nat.mul_one] at hcs hrel
 have hmap : ((xs.map Sp.Ag).flatten).map D.av = xs.map AV.int := by
  clear hn hnc hrel k1 hj
  induction xs with
  | nil => rfl
  | cons x xs ih => simp only [List.map_cons, List.flatten_cons, List.map_append, ih]; rfl
 rw [hmap] at hrel
 let q' : Qu := ⟨g, 0, cap, [], (cur.toList.drop xs.length).map AV.val⟩
 have hok : q'.Ok xs.length := ⟨rfl, hnc, by
  show cap ≤ xs.length + ((cur.toList.drop xs.length).map AV.val).length
  have ecl : cur.toList.length = cap := hcs
  rw [List.length_map, List.length_drop, ecl]; omega⟩
 have he : Ent.rel w I (quE E q' xs) := by
  refine ⟨cur, hg, ?_⟩
  have := AV.rels_append hrel (rels_vals w I (cur.toList.drop xs.length))
  rw [List.take_append_drop] at this
  exact this
 exact hj q' hok rfl I a w (k1.reent (e := AF (Sl.v ⟨some ⟨g, 0, none⟩, xs.length, cap⟩) E 1 Sp.Ag xs) (e' := quE E q' xs) rfl he) k2 k3
theorem Ur {T E : TypeId} {x y : Operand} {z : Value} {eb eb' : Nat} {q : Qu} {n : Nat} {xs : List Int} {kk : Int} {H' : Qu → H} (hx : evO ρ x = some (.val (q.v n))) (hy : evO ρ y = some (.d (.l 1 eb' [[.i .i64 kk]]))) (hT : k.P.underlying T = some (.slice E)) (he : El k.P E z 1 eb) (hz : z.cells.size = 1) (hn : n = xs.length)
 (ok : q.Ok n) (hd : Nat.blt d k.n = true) (hb : (n + 1) * eb ≤ 140737488355328) (hm : n + 1 ≤ 140737488355328)
 (hu : ∀ q', Upd (quE E q xs) (quE E q' (xs ++ [kk])) h (H' q')) (hj : All fun q' : Qu => Imp (q'.Ok (n + 1)) (JL k ops l Q ((d, .val (q'.v (n + 1))) :: ρ) (H' q'))) :
 JL k ops (⟨some d, .call { callee := .builtin .append, args := #[x, y], argTypes := #[T, T] }, ty, pos, after, none⟩ :: l) Q ρ h := by
 subst hn
 obtain ⟨i, hi, hz0, hz1, hz2⟩ := he.get
 refine DT rfl (fun t ht => by cases ht; exact blt hd) fun I a w k1 k2 => ?_
 have e1 : a.eval x = q.v xs.length := AI (k2.ev x) (AA hx)
 have e2 := BS (k2.ev y) (AA hy)
 have hmem : quE E q xs ∈ h := by obtain ⟨h1, h2, e, _⟩ := (hu q).split; rw [e]; simp
 obtain ⟨cs, hc1, hc2⟩ := k1.ent _ hmem
 have hcl : cs.toList.length = q.off + xs.length + q.post.length := by
  rw [(AV.rels_length hc2).symm, List.length_append, List.length_append, List.length_map, ok.pre]
 have hpl : (q.pre ++ xs.map AV.int).length = q.off + xs.length := by rw [List.length_append, List.length_map, ok.pre]
 rcases Rel.cells_of (by decide) e2 with ⟨e3, e4⟩ | ⟨ad, cap, us, e3, hl, hc, h1c, hrel⟩
 · cases e4
 obtain ⟨u, rfl⟩ : ∃ u, us = [u] := List.length_eq_one_iff.1 hl
 obtain rfl : u = .int .i64 kk := hrel.1
 have hlo := ok.lo
 have hhi := ok.hi
 by_cases hroom : xs.length + 1 ≤ q.c
 · obtain ⟨p, ps, hps⟩ : ∃ p ps, q.post = p :: ps := by
    cases hq : q.post with
    | nil => rw [hq] at hhi; simp at hhi; omega
    | cons p ps => exact ⟨p, ps, rfl⟩
   let q' : Qu := ⟨q.g, q.off, q.c, q.pre, ps⟩
   have hq' : q'.Ok (xs.length + 1) := ⟨ok.pre, hroom, by rw [hps, List.length_cons] at hhi; show q.c ≤ xs.length + 1 + ps.length; omega⟩
   obtain ⟨h1, h2, eh, eH⟩ := (hu q').split
   have hj' := (hj.get q').get hq'
   rw [eH] at hj'
   rw [eh] at k1
   have hst := run_storeCells_at k.P q.g (q.off + xs.length) E [.int .i64 kk] 0 cs w hc1 (by rw [hps, List.length_cons] at hcl; simp only [Array.length_toList] at hcl; simp only [List.length_singleton]; omega) h1c
   simp only [Nat.add_zero, List.length_singleton] at hst
   have hkeep := fun (y : Nat) (hy : y ≠ q.g) => setRow_other w q.g y (cs.toList.take (q.off + xs.length) ++ [Value.int .i64 kk] ++ cs.toList.drop (q.off + xs.length + 1)).toArray hy
   have hb : blks (h1 ++ quE E q xs :: h2) = blks h1 ++ q.g :: blks h2 := by simp [blks, Ent.blk]
   have hI : ∀ z, I z → z ≠ q.g := fun z hz e => by subst e; exact (k1.imm _ hz).2 (by rw [hb]; simp)
   have hre : Ent.rel (w.setRow q.g (cs.toList.take (q.off + xs.length) ++ [Value.int .i64 kk] ++ cs.toList.drop (q.off + xs.length + 1)).toArray) I (quE E q' (xs ++ [kk])) := by
    refine ⟨_, setRow_heap w q.g cs _ E (0, 0) hc1, ?_⟩
    have m : ∀ {ys : List AV} {us : List Value}, AV.rels w I ys us → AV.rels (w.setRow q.g (cs.toList.take (q.off + xs.length) ++ [Value.int .i64 kk] ++ cs.toList.drop (q.off + xs.length + 1)).toArray) I ys us := fun h => AV.rels_mono (fun y hy => hkeep y (hI y hy)) (fun _ h => h) h
    have t1 := C0 (q.off + xs.length) hc2
    have t2 := EV (q.off + xs.length + 1) hc2
    rw [List.take_append_of_le_length (by omega), List.take_of_length_le (by omega)] at t1
    rw [hps, show q.off + xs.length + 1 = (q.pre ++ xs.map AV.int).length + 1 by rw [hpl], List.drop_append, List.drop_of_length_le (by omega), List.nil_append, show (q.pre ++ xs.map AV.int).length + 1 - (q.pre ++ xs.map AV.int).length = 1 by omega, List.drop_succ_cons, List.drop_zero, hpl] at t2
    have e : q'.pre ++ (xs ++ [kk]).map AV.int ++ q'.post = (q.pre ++ xs.map AV.int) ++ [AV.int kk] ++ ps := by simp [q']
    rw [e]
    exact AV.rels_append (AV.rels_append (m t1) ⟨rfl, trivial⟩) (m t2)
   obtain ⟨m1, m2⟩ := k1.write (e := quE E q xs) (e' := quE E q' (xs ++ [kk])) (b := q.g) (w' := w.setRow q.g _) rfl rfl rfl rfl rfl (by simp) hkeep hre
   refine ⟨.slice (some ⟨q.g, q.off, none⟩) (xs.length + 1) q.c, _, I, .val (q'.v (xs.length + 1)), _, ?_, m1, k2.mono m2 (fun _ h => h), rfl, hj'⟩
   have hf : (Builtin.firstCells 1 1 (.slice (some ad) 1 cap)).run k.P w = .ok [Value.int .i64 kk].toArray w := run_firstCells_some (P := k.P) w 1 1 ad 1 cap [.int .i64 kk] rfl hc
   have e3' : a.eval y = .slice (some ad) 1 cap := e3
   simp [execOp, resolve, invoke, builtin, e1, e3', Builtin.append_, run_underlying hT, sizeOf, typeInfo, hi, Builtin.lenOf, hroom, hz1, hf, Addr.add_lit, hst]
 · have holds : ∀ j u, (xs.map (Value.int .i64))[j]? = some u → w.cell? ((⟨q.g, q.off, none⟩ : Addr).add j) = some u := fun j u hu => by
    rw [Addr.add_lit, cell_of_row w q.g (q.off + j) cs E (0, 0) hc1]
    have hj : j < xs.length := by
     have := (List.getElem?_eq_some_iff.1 hu).1
     simpa using this
    obtain ⟨v, h1, h2⟩ := AV.rels_get hc2 (q.off + j) (.int xs[j]) (by
     rw [List.getElem?_append_left (by omega), List.getElem?_append_right (by rw [ok.pre]; omega), ok.pre, Nat.add_sub_cancel_left, List.getElem?_map, List.getElem?_eq_getElem hj]; rfl)
    rw [List.getElem?_map, List.getElem?_eq_getElem hj] at hu
    cases hu
    obtain rfl : v = .int .i64 xs[j] := h2
    simpa using h1
   have e3' : a.eval y = .slice (some ad) 1 cap := e3
   have hr := run_append_grow (P := k.P) w T ty E i z hT hi hz0 ⟨q.g, q.off, none⟩ xs.length q.c (xs.map (Value.int .i64)) (by rw [hz1]; simp) holds ad 1 cap [.int .i64 kk] (by rw [hz1]; rfl) hc (by omega) (by omega) (growslice_fits (by omega) (by rw [hz2]; exact hb))
   generalize hzc : Builtin.zeroCells z.cells (grownCap w (xs.length + 1) q.c E - (xs.length + 1)) = zc at hr
   have hge := grownCap_ge w (xs.length + 1) q.c E
   have hzs : zc.size = grownCap w (xs.length + 1) q.c E - (xs.length + 1) := by rw [← hzc, size_zeroCells, hz, Nat.mul_one]
   generalize grownCap w (xs.length + 1) q.c E = cp at hr hge hzs
   obtain ⟨O, hO⟩ : ∃ O, O = Obj.cells ((xs.map (Value.int .i64)).toArray ++ [Value.int .i64 kk].toArray ++ zc) E := ⟨_, rfl⟩
   rw [← hO] at hr
   let q' : Qu := ⟨w.heap.size, 0, cp, [], zc.toList.map AV.val⟩
   have hq' : q'.Ok (xs.length + 1) := ⟨rfl, hge, by
    have ezc : zc.toList.length = cp - (xs.length + 1) := hzs
    show cp ≤ xs.length + 1 + (zc.toList.map AV.val).length
    rw [List.length_map, ezc]; omega⟩
   obtain ⟨h1, h2, eh, eH⟩ := (hu q').split
   have hj' := (hj.get q').get hq'
   rw [eH] at hj'
   rw [eh] at k1
   have hdr : Ev I (h1 ++ quE E q xs :: h2) w w.drew := ⟨rfl, rfl, rfl, Nat.le_refl _, fun _ _ => rfl⟩
   have kd := k1.same hdr
   have sd := k2.same k1 hdr
   have hmapv : ∀ l : List Int, l.map AV.int = (l.map (Value.int .i64)).map AV.val := fun l => by rw [List.map_map]; rfl
   have hre : Ent.rel (w.drew.alloc O) I (quE E q' (xs ++ [kk])) := by
    rw [hO]
    refine ⟨_, heap_alloc_new w.drew _, ?_⟩
    have e : q'.pre ++ (xs ++ [kk]).map AV.int ++ q'.post = ((xs.map (Value.int .i64)) ++ [Value.int .i64 kk] ++ zc.toList).map AV.val := by simp [q', hmapv]
    rw [e]
    have := rels_vals (w.drew.alloc (Obj.cells ((xs.map (Value.int .i64)).toArray ++ [Value.int .i64 kk].toArray ++ zc) E)) I ((xs.map (Value.int .i64)) ++ [Value.int .i64 kk] ++ zc.toList)
    simpa using this
   have kf := kd.fresh O (quE E q' (xs ++ [kk])) rfl hre
   have sf := sd.fresh kd O
   have hp : (quE E q' (xs ++ [kk]) :: (h1 ++ quE E q xs :: h2)).Perm (quE E q xs :: (h1 ++ quE E q' (xs ++ [kk]) :: h2)) := by
    refine (List.Perm.cons _ List.perm_middle).trans ((List.Perm.swap _ _ _).trans (List.Perm.cons _ List.perm_middle.symm))
   obtain ⟨I', m1, m2⟩ := VS.trans (VS.perm (ρ := ρ) hp) (VS.drop (List.sublist_cons_self _ _)) _ _ _ _ _ kf sf
   exact ⟨_, _, I', .val (q'.v (xs.length + 1)), _, by simp [execOp, resolve, invoke, builtin, e1, e3', hr]; exact ⟨⟨rfl, rfl⟩, rfl⟩, m1, m2, rfl, hj'⟩
end
section
variable {P : Program} {G : List (Nat × List D)} {ρ : Env} {h : H} {dst : Option Tmp} {ty : TypeId} {pos : String} {after : Array Edge} {g : Option (Nat × Bool)}
theorem Fh {α β : Type} [DecidableEq α] {kd : TypeDesc} {kv : α → Value} {vv : β → Value} (K : J5 kd kv) {T KT ET : TypeId} {x y : Operand} {b : Nat} {ps : List (α × β)} {a : α} {z : Value} {sz eb : Nat}
 (hx : evO ρ x = some (.val (.map (some b)))) (hy : evO ρ y = some (.val (kv a))) (hT : P.underlying T = some (.map KT ET)) (hK : P.underlying KT = some kd) (hE : El P ET z sz eb) (hm : Ent.raw b (Ay (Ab kv vv ps)) ∈ h) (hg : getM ps a = none) :
 Pure P G ⟨dst, .lookup T x y true, ty, pos, after, g⟩ ρ h (.tup [.val z, .bool false]) := by
 have := MH (G := G) (dst := dst) (ty := ty) (pos := pos) (after := after) (g := g) K hx hy hT hK hE hm
 rw [hg] at this; exact this
theorem Fv {α β : Type} [DecidableEq α] {kd : TypeDesc} {kv : α → Value} {vv : β → Value} (K : J5 kd kv) {T KT ET : TypeId} {x y : Operand} {b : Nat} {ps : List (α × β)} {a : α} {c : β} {z : Value} {sz eb : Nat}
 (hx : evO ρ x = some (.val (.map (some b)))) (hy : evO ρ y = some (.val (kv a))) (hT : P.underlying T = some (.map KT ET)) (hK : P.underlying KT = some kd) (hE : El P ET z sz eb) (hm : Ent.raw b (Ay (Ab kv vv ps)) ∈ h) (hg : getM ps a = some c) :
 Pure P G ⟨dst, .lookup T x y true, ty, pos, after, g⟩ ρ h (.tup [.val (vv c), .bool true]) := by
 have := MH (G := G) (dst := dst) (ty := ty) (pos := pos) (after := after) (g := g) K hx hy hT hK hE hm
 rw [hg] at this; exact this
end
section
variable {k : Kx} {Q : Exit → Env → H → Prop} {ρ : Env} {h h' : H} {ops : Array Oper} {l : List Oper} {d : Nat} {ty : TypeId} {pos : String} {after : Array Edge}
theorem Us {T E : TypeId} {x : Operand} {a : Int} {z : Value} {eb : Nat} (h0 : evO ρ x = some (.int a)) (hT : k.P.underlying T = some (.slice E)) (he : El k.P E z 1 eb)
 (hd : Nat.blt d k.n = true) (hj : All fun q : Sl => JL k ops l Q ((d, .val q.v) :: ρ) (AF q.v E 1 Sp.Ag [a] :: h)) : JL k ops (⟨some d, .buildSlice T 1 #[(0, x)], ty, pos, after, none⟩ :: l) Q ρ h := by
 refine KS (f := Sp.Ag) (ys := [a]) (xs := [x]) hT he (by decide) (by simp) rfl ?_ ?_ (fun _ => rfl) (by simp) hd ⟨fun v => HC (h1 := []) rfl fun q e => by subst e; exact hj.get q⟩
 · simp only [List.map_cons, List.map_nil, AA h0]; rfl
 · intro x hx
   simp only [List.mem_cons, List.not_mem_nil, or_false] at hx
   rw [hx, AA h0]; rfl
end
end Go.Av
namespace Go.Proofs.YtajnpfgelpkijaaGreatDoor
open Go Go.Av Go.Sp Go.ChangeShapes Go.WideShapes Go.ChangeAt Go.RowKit

abbrev GK := Rows.sheetReadsRow
theorem hZ : ownKnob Tryz.prog.godebug = none := by kernel_rfl
theorem UG : laidOutB Tryz.prog = true := by kernel_rfl
def Ye (P : Program) (w : World) (n : _root_.String) (d : DataW Unit) : Prop :=
 ∃ g t cs fuel p, P.globalNamed n = some g ∧ (P.globals[g]?).map (·.type) = some t ∧ w.var? P n = some cs ∧ DataW.trod (fun _ => ()) P w 0 (fun _ => true) false fuel t cs.toList = some (d, p)
theorem OK {P : Program} {w : World} : ∀ {l : List (_root_.String × DataW Unit)} {ps : List MemPlace}, DataW.LaidVars P w l ps → ∀ n d, (n, d) ∈ l → Ye P w n d
 | [], _, _, _, _, hm => by cases hm
 | (n', d') :: r, ps, h, n, d, hm => by
   obtain ⟨g, t, cs, fuel, p, q, h1, h2, h3, h4, h5, _⟩ := h
   rcases List.mem_cons.1 hm with e | e
   · cases e
     exact ⟨g, t, cs, fuel, p, h1, h2, h3, h4⟩
   · exact OK h5 n d e
theorem LR {W : World} (h : laidMetH Tryz.prog GK.laid W) {n : _root_.String} {d : DataW Unit} (hm : (n, d) ∈ GK.laid) : Ye Tryz.prog W n d := by
 rw [MakeChecks.laidMetH_plain _ _ _ (by kernel_rfl)] at h
 obtain ⟨_, hv, _⟩ := h
 exact OK hv n d hm
theorem P6 {P : Program} {w : World} {fuel : Nat} {t e : TypeId} {n : Nat} {cs : List Value} {ls : List (List UInt8)} {p : List MemPlace} (ht : P.underlying t = some (.array n e)) (he : P.underlying e = some .string) (hce : P.cellsOf e = 1)
 (h : DataW.trod (fun _ => ()) P w 0 (fun _ => true) false fuel t cs = some (.agg (ls.map fun l => .lit (.string l)), p)) : ∀ (i : Nat) (l : List UInt8), ls[i]? = some l → cs[i]? = some (.string (tx l)) := by
 cases fuel with
 | zero => simp [DataW.trod] at h
 | succ fuel =>
   simp only [DataW.trod, ht, hce, Nat.mul_one] at h
   split at h
   · obtain ⟨xs, hm, hx⟩ := Option.map_eq_some_iff.1 h
     have hxs : xs.map (·.1) = ls.map fun l => (DataW.lit (.string l) : DataW Unit) := by
      have := congrArg Prod.fst hx
      simpa using this
     have hxl : xs.length = n := by simpa using Lib.mapM_length hm
     have hzl : ls.length = n := by
      have := congrArg List.length hxs
      simp at this
      omega
     intro i l hl
     have hi : i < n := by rw [← hzl]; exact (List.getElem?_eq_some_iff.1 hl).1
     obtain ⟨b, hb, hf⟩ := Lib.mapM_at hm i i (by simp [hi])
     obtain ⟨s, hc, rfl, _⟩ := DataW.trod_string he hf
     have h1 : cs[i]? = some (.string s) := by
      have := congrArg (·[0]?) hc
      simpa [List.getElem?_take, List.getElem?_drop] using this
     have h2 : (xs.map (·.1))[i]? = some (DataW.lit (.string s.data.toList) : DataW Unit) := by simp [hb]
     rw [hxs, List.getElem?_map, hl] at h2
     simp only [Option.map_some, Option.some.injEq, DataW.lit.injEq, Lit.string.injEq] at h2
     rw [h1, h2, FJ]
   · cases h
theorem D5 {P : Program} {w : World} {n : _root_.String} {g : Nat} {cs : Array Value} (hg : P.globalNamed n = some g) (h : w.var? P n = some cs) : ∃ t fr, w.heap[g]? = some (.cells cs t fr) := by
 unfold World.var? at h
 rw [hg, Option.bind_some] at h
 split at h
 · rename_i c t fr e
   cases h
   exact ⟨t, fr, e⟩
 · cases h
theorem Uz : Tryz.prog.globalNamed "foretell/polish.parts" = some 7 := by kernel_rfl
theorem YH : (Tryz.prog.globals[7]?).map (·.type) = some 254 := by kernel_rfl
theorem Uk : Tryz.prog.globalNamed "foretell/sheet.marks" = some 0 := by kernel_rfl
theorem Zq : (Tryz.prog.globals[0]?).map (·.type) = some 124 := by kernel_rfl
theorem cq : Tryz.prog.globalNamed "internal/strconv.uint64pow10" = some 4 := by kernel_rfl
theorem eU : (Tryz.prog.globals[4]?).map (·.type) = some 233 := by kernel_rfl
def Pa : List Int := [-1, 0, 0, 2, 2, 2, 2, 2, 2, 2, 1, 0, 0, 0, 1, 2, 2, 1, 1]
theorem Sj {W : World} (h : laidMetH Tryz.prog GK.laid W) : ∃ t fr, W.heap[7]? = some (.cells (Pa.map fun z => Value.int .i64 z).toArray t fr) := by
 obtain ⟨g, t, cs, fuel, p, h1, h2, h3, h4⟩ := LR h (n := "foretell/polish.parts") (d := Rows.laid_foretell_polish_parts) (by ((repeat (first | exact List.mem_cons_self | apply List.mem_cons_of_mem)); first | done | fail))
 obtain rfl := Option.some.inj (Uz.symm.trans h1)
 obtain rfl := Option.some.inj (YH.symm.trans h2)
 rw [show (Rows.laid_foretell_polish_parts : DataW Unit) = Lib.tabData .i64 Pa by kernel_rfl] at h4
 have e := Lib.cells_of_tab Tryz.underlying254 Tryz.underlying3 (by kernel_rfl) (by kernel_rfl) h4
 obtain ⟨t', fr, h5⟩ := D5 Uz h3
 exact ⟨t', fr, by rw [h5, ← e]⟩
theorem Zn {W : World} (h : laidMetH Tryz.prog GK.laid W) : ∃ t fr, W.heap[4]? = some (.cells (Lib.pow10Tab.map fun z => Value.int .u64 z).toArray t fr) := by
 obtain ⟨g, t, cs, fuel, p, h1, h2, h3, h4⟩ := LR h (n := "internal/strconv.uint64pow10") (d := Rows.laid_internal_strconv_uint64pow10) (by ((repeat (first | exact List.mem_cons_self | apply List.mem_cons_of_mem)); first | done | fail))
 obtain rfl := Option.some.inj (cq.symm.trans h1)
 obtain rfl := Option.some.inj (eU.symm.trans h2)
 rw [show (Rows.laid_internal_strconv_uint64pow10 : DataW Unit) = Lib.tabData .u64 Lib.pow10Tab by kernel_rfl] at h4
 have e := Lib.cells_of_tab Tryz.underlying233 Tryz.underlying199 (by kernel_rfl) (by kernel_rfl) h4
 obtain ⟨t', fr, h5⟩ := D5 cq h3
 exact ⟨t', fr, by rw [h5, ← e]⟩
theorem TE {W : World} (h : laidMetH Tryz.prog GK.laid W) : ∃ cs t fr, W.heap[0]? = some (.cells cs t fr) ∧ ∀ (i : Nat) l, Gu[i]? = some l → cs[i]? = some (.string (tx l)) := by
 obtain ⟨g, t, cs, fuel, p, h1, h2, h3, h4⟩ := LR h (n := "foretell/sheet.marks") (d := Rows.laid_foretell_sheet_marks) (by ((repeat (first | exact List.mem_cons_self | apply List.mem_cons_of_mem)); first | done | fail))
 obtain rfl := Option.some.inj (Uk.symm.trans h1)
 obtain rfl := Option.some.inj (Zq.symm.trans h2)
 rw [show (Rows.laid_foretell_sheet_marks : DataW Unit) = .agg (Gu.map fun l => .lit (.string l)) by kernel_rfl] at h4
 have e := P6 Tryz.underlying124 Tryz.underlying9 (by kernel_rfl) h4
 obtain ⟨t', fr, h5⟩ := D5 Uk h3
 exact ⟨cs, t', fr, h5, fun i l hl => by have := e i l hl; simpa using this⟩
theorem Iv {w : World} {g : Nat} {cs : Array Value} {t : TypeId} {fr : Nat × Nat} {ds : List D} (h : w.heap[g]? = some (.cells cs t fr)) (hd : ∀ (u : Nat) x, ds[u]? = some x → ∃ c, cs[u]? = some c ∧ Rel w (fun b => b < w.heap.size) x c) : PD w (fun b => b < w.heap.size) ds ⟨g, 0, none⟩ :=
 ⟨(Array.getElem?_eq_some_iff.1 h).1, fun u x hx => by
   obtain ⟨c, h1, h2⟩ := hd u x hx
   exact ⟨c, by rw [Addr.add_lit, Nat.zero_add, cell_of_row w g u cs t fr h]; exact h1, h2⟩⟩
theorem bB {W : World} (h : laidMetH Tryz.prog GK.laid W) : ∀ q ∈ GP0 ++ GP1, PD W (fun b => b < W.heap.size) q.2 ⟨q.1, 0, none⟩ := by
 intro q hq
 rcases List.mem_append.1 hq with hq | hq
 · obtain rfl : q = (7, LM) := by simpa [GP0] using hq
   obtain ⟨t, fr, h1⟩ := Sj h
   refine Iv h1 fun u x hx => ?_
   have : LM = Pa.map fun n => D.i .i64 n := rfl
   rw [this, List.getElem?_map] at hx
   cases hz : Pa[u]? with
   | none => rw [hz] at hx; cases hx
   | some z =>
     rw [hz] at hx
     cases hx
     exact ⟨.int .i64 z, by simp [hz], .i _ _⟩
 · simp only [GP1, List.mem_cons, List.not_mem_nil, or_false] at hq
   rcases hq with rfl | rfl
   · obtain ⟨cs, t, fr, h1, h2⟩ := TE h
     refine Iv h1 fun u x hx => ?_
     simp only [Jp, List.getElem?_map] at hx
     cases hz : Gu[u]? with
     | none => rw [hz] at hx; cases hx
     | some l =>
       rw [hz] at hx
       cases hx
       exact ⟨.string (tx l), h2 u l hz, .s _⟩
   · obtain ⟨t, fr, h1⟩ := Zn h
     refine Iv h1 fun u x hx => ?_
     cases u with
     | succ u => simp [bZ] at hx
     | zero =>
       simp only [bZ, List.getElem?_cons_zero, Option.some.injEq] at hx
       subst hx
       exact ⟨.int .u64 1, by kernel_rfl, .sm _ _ _ _ (Array.getElem?_eq_some_iff.1 h1).1 h1 ⟨_, _, _, rfl⟩ ⟨rfl, t, fr, rfl⟩ rfl⟩
end Go.Proofs.YtajnpfgelpkijaaGreatDoor
