/- A bundle of this claim's own texts: E9 G19 Em N16 G2 G24 G27. -/
import Derived.Test.YtniklgkoiaeipaaGreatDoorZ1
import Derived.Test.YtniklgkoiaeipaaGreatDoorZ2
import Derived.Test.YtniklgkoiaeipaaGreatDoorZ21
namespace Go.Av
open Go Go.Instr
set_option linter.unusedVariables false
set_option linter.unusedSimpArgs false

structure KeyF (P : Program) (KT : TypeId) {α : Type} (kv : α → Value) [DecidableEq α] : Prop where
 find : ∀ {β : Type} (vv : β → Value) (ps : List (α × β)) (a : α) (w : World), ∃ r : Option (Nat × Value), (findKey KT (kv a) (mapEs (entL kv vv ps) 0)).run P w = .ok r w ∧ r.map (·.2) = (getM ps a).map vv
 easy : ∀ (e : Bool) (a : α) (w : World), (checkKey e 10000 KT (kv a)).run P w = .ok () w
section
variable {α β : Type} [DecidableEq α] {kv : α → Value}
theorem run_asking {P : Program} {KT : TypeId} (he : ∀ a b w, (Op.equal KT (kv a) (kv b)).run P w = .ok (decide (a = b)) w) (vv : β → Value) (a : α) : ∀ (ps : List (α × β)) (i j : Nat) (w : World),
 ∃ r : Option (Nat × Value), (findAsking KT (kv a) (mapEs (entL kv vv ps) i) j).run P w = .ok r w ∧ r.map (·.2) = (getM ps a).map vv
 | [], i, j, w => ⟨none, rfl, rfl⟩
 | (b, c) :: ps, i, j, w => by
   by_cases h : a = b
   · subst h
     refine ⟨some (j, vv c), ?_, by simp [getM]⟩
     simp [entL, mapEs, findAsking, he]
   · obtain ⟨r, h1, h2⟩ := run_asking he vv a ps (i + 1) (j + 1) w
     have hb : ¬ b = a := fun k => h k.symm
     refine ⟨r, ?_, by rw [h2]; simp [getM, hb]⟩
     have e : mapEs (entL kv vv ((b, c) :: ps)) i = ⟨kv b, vv c, i⟩ :: mapEs (entL kv vv ps) (i + 1) := rfl
     rw [e, findAsking]
     simp [he, h, h1]
theorem keyF_struct {P : Program} {KT : TypeId} {fs : Array Field} (hK : P.underlying KT = some (.struct fs)) (he : ∀ a b w, (Op.equal KT (kv a) (kv b)).run P w = .ok (decide (a = b)) w)
 (hc : ∀ e a w, (checkKey e 10000 KT (kv a)).run P w = .ok () w) : KeyF P KT kv where
 easy := hc
 find vv ps a w := by
  cases ps with
  | nil => exact ⟨none, by simp [findKey, run_underlying hK, entL, mapEs, findNow], rfl⟩
  | cons p ps =>
    obtain ⟨r, h1, h2⟩ := run_asking he vv a (p :: ps) 0 0 w
    refine ⟨r, ?_, h2⟩
    have e : findNow (.struct fs) (kv a) (mapEs (entL kv vv (p :: ps)) 0) 0 = none := by
     have e1 : mapEs (entL kv vv (p :: ps)) 0 = ⟨kv p.1, vv p.2, 0⟩ :: mapEs (entL kv vv ps) 1 := rfl
     rw [e1, findNow]
     have e2 : sameNow (.struct fs) (kv a) (kv p.1) = none := by unfold sameNow; split <;> simp_all
     simp only [e2]
    simp [findKey, run_underlying hK, e, h1]
end
section
variable {k : Kx} {Q : Exit → Env → H → Prop} {ρ : Env} {h h' : H} {ops : Array Oper} {l : List Oper} {ty : TypeId} {pos : String} {after : Array Edge}
theorem js_putF {α β : Type} [DecidableEq α] {kv : α → Value} {vv : β → Value} {T KT ET : TypeId} (K : KeyF k.P KT kv) {x y u : Operand} {r s : AV} {b : Nat} {ps : List (α × β)} {a : α} {c : β}
 (hx : evO ρ x = some (.val (.map (some b)))) (hy : evO ρ y = some s) (hs : ∀ w I v, AV.rel w I s v → v = kv a) (hv : evO ρ u = some r) (hr : ∀ w I v, AV.rel w I r v → v = vv c) (hT : k.P.underlying T = some (.map KT ET))
 (hu : Upd (.raw b (mapO (entL kv vv ps))) (.raw b (mapO (entL kv vv (ps ++ [(a, c)])))) h h') (hno : getM ps a = none)
 (hj : JL k ops l Q ρ h') : JL k ops (⟨none, .mapUpdate T x y u, ty, pos, after, none⟩ :: l) Q ρ h := by
 obtain ⟨h1, h2, rfl, rfl⟩ := hu.split
 refine JL_eff_skip rfl rfl fun I ac w k1 k2 => ?_
 have e1 := rel_val (k2.ev x) (ev_of_evO hx)
 have e2 := hs _ _ _ (rel_as (k2.ev y) (ev_of_evO hy))
 have e3 := hr _ _ _ (rel_as (k2.ev u) (ev_of_evO hv))
 have hb : w.heap[b]? = some (mapO (entL kv vv ps)) := k1.ent (.raw b (mapO (entL kv vv ps))) (by simp)
 obtain ⟨q, hfind, hq⟩ := K.find vv ps a w
 obtain rfl : q = none := by
  rw [hno] at hq
  cases q with
  | none => rfl
  | some _ => cases hq
 have hnew : Obj.map (mapEs (entL kv vv ps) 0 ++ [(⟨kv a, vv c, (entL kv vv ps).length⟩ : MapEntry)]).toArray ((entL kv vv ps).length + 1) = mapO (entL kv vv (ps ++ [(a, c)])) := by
  have e : entL kv vv (ps ++ [(a, c)]) = entL kv vv ps ++ [(kv a, vv c)] := by simp [entL]
  unfold mapO
  rw [e, mapEs_append]
  simp [mapEs]
 obtain ⟨g1, g2⟩ := k1.write (w' := { w with heap := w.heap.setIfInBounds b (mapO (entL kv vv (ps ++ [(a, c)]))) }) (e' := .raw b (mapO (entL kv vv (ps ++ [(a, c)])))) (b := b) rfl rfl rfl rfl rfl (by simp)
  (fun x hx => by simp [Array.getElem?_setIfInBounds, Ne.symm hx]) (by
   have hlt := (Array.getElem?_eq_some_iff.1 hb).1
   show _ = _
   simp [Array.getElem?_setIfInBounds, hlt])
 refine ⟨{ w with heap := w.heap.setIfInBounds b (mapO (entL kv vv (ps ++ [(a, c)]))) }, I, h1 ++ .raw b (mapO (entL kv vv (ps ++ [(a, c)]))) :: h2, ?_, g1, k2.mono g2 (fun _ h => h), hj⟩
 have hobj : (getObj b).run k.P w = .ok (.map (mapEs (entL kv vv ps) 0).toArray (entL kv vv ps).length) w := by simp [getObj, Sem.run, hb, mapO]
 have hset := run_setM (P := k.P) (w := w) (r := b) (mapO (entL kv vv (ps ++ [(a, c)]))) (es := (mapEs (entL kv vv ps) 0).toArray) (clock := (entL kv vv ps).length) hb
 simp only [execOp, e1, e2, e3, mapUpdate]
 simp [run_underlying hT, hobj, K.easy false a w, hfind, hnew, hset]
end
section
variable {P : Program} {G : List (Nat × List D)} {ρ : Env} {h : H} {dst : Option Tmp} {ty : TypeId} {pos : String} {after : Array Edge} {g : Option (Nat × Bool)}
theorem pu_lookF {α β : Type} [DecidableEq α] {kv : α → Value} {vv : β → Value} {T KT ET : TypeId} (K : KeyF P KT kv) {x y : Operand} {s : AV} {b : Nat} {ps : List (α × β)} {a : α} {z : Value} {sz eb : Nat}
 (hx : evO ρ x = some (.val (.map (some b)))) (hy : evO ρ y = some s) (hs : ∀ w I v, AV.rel w I s v → v = kv a) (hT : P.underlying T = some (.map KT ET)) (hE : El P ET z sz eb) (hm : Ent.raw b (mapO (entL kv vv ps)) ∈ h) :
 Pure P G ⟨dst, .lookup T x y true, ty, pos, after, g⟩ ρ h (.tup [.val (((getM ps a).map vv).getD z), .bool (getM ps a).isSome]) := by
 intro c I n ac w _ hok hs'
 obtain ⟨i, hi, hz, _, _⟩ := hE.get
 have e1 := rel_val (hs'.ev x) (ev_of_evO hx)
 have e2 := hs _ _ _ (rel_as (hs'.ev y) (ev_of_evO hy))
 have hb : w.heap[b]? = some (mapO (entL kv vv ps)) := hok.ent _ hm
 refine ⟨.tuple #[((getM ps a).map vv).getD z, .bool (getM ps a).isSome], ⟨[_, _], rfl, rfl, rfl, trivial⟩, fun w' hw' => ?_⟩
 have hb' : w'.heap[b]? = some (mapO (entL kv vv ps)) := (hw'.own b (mem_blks hm rfl)).trans hb
 have hobj : (getObj b).run P w' = .ok (.map (mapEs (entL kv vv ps) 0).toArray (entL kv vv ps).length) w' := by simp [getObj, Sem.run, hb', mapO]
 obtain ⟨r, hr1, hr2⟩ := K.find vv ps a w'
 simp only [execOp, e1, e2, lookup]
 cases r with
 | none =>
   have hr3 : (getM ps a).map vv = none := hr2.symm
   have hr4 : getM ps a = none := by simpa using hr3
   simp [run_underlying hT, hobj, K.easy _ a w', hr1, hr4, zeroValue, typeInfo, hi, hz]
 | some r =>
   obtain ⟨j, v⟩ := r
   have hr3 : (getM ps a).map vv = some v := hr2.symm
   obtain ⟨bb, hb1, hb2⟩ := Option.map_eq_some_iff.1 hr3
   simp [run_underlying hT, hobj, K.easy _ a w', hr1, hb1, hb2]
theorem pu_load_row_agg {α : Type} {f : α → List D} {xs : List α} {T E : TypeId} {x : Operand} {q : Sl} {j sz eb : Nat} {z : Value} (hT : isAggB P T = some true) (hE : El P T z sz eb) (hx : evO ρ x = some (.val (.pointer (some (q.at (j * sz)))))) (hm : rowE q.v E sz f xs ∈ h) (hsz : ∀ a, (f a).length = sz) (hj : j < xs.length) :
 Pure P G ⟨dst, .load T x, ty, pos, after, g⟩ ρ h (.agg ((f xs[j]).map D.av)) := by
 intro cx I m a w _ hok hs
 obtain ⟨i, hi, _, rfl, _⟩ := hE.get
 obtain ⟨gb, cap, cur, rfl, hg, hnc, hcm, hcs, hrel⟩ := Ent.row_form (hok.ent _ hm) (by omega)
 have e1 : a.eval x = .pointer (some ⟨gb, j * i.size, none⟩) := rel_val (hs.ev x) (ev_of_evO hx)
 have hle : (j + 1) * i.size ≤ xs.length * i.size := Nat.mul_le_mul_right _ hj
 rw [Nat.add_mul, Nat.one_mul] at hle
 have hcl : xs.length * i.size ≤ cur.toList.length := by
  have e : cur.toList.length = cap * i.size := hcs
  rw [e]; exact Nat.mul_le_mul_right _ hnc
 have hfl : ∀ l : List α, ((l.map f).flatten).length = l.length * i.size := fun l => by
  rw [flatten_length _ fun r hr => by obtain ⟨b, _, rfl⟩ := List.mem_map.1 hr; exact hsz b, List.length_map]
 have hsplit : (xs.map f).flatten = ((xs.take j).map f).flatten ++ (f xs[j] ++ ((xs.drop (j + 1)).map f).flatten) := by
  have e : xs = xs.take j ++ xs[j] :: xs.drop (j + 1) := by rw [← List.drop_eq_getElem_cons hj, List.take_append_drop]
  have e2 : ((xs.take j ++ xs[j] :: xs.drop (j + 1)).map f).flatten = (xs.map f).flatten := by rw [← e]
  rw [List.map_append, List.map_cons, List.flatten_append, List.flatten_cons] at e2
  exact e2.symm
 have htl : ((xs.take j).map f).flatten.length = j * i.size := by rw [hfl, List.length_take, Nat.min_eq_left (by omega)]
 have hl1 : ((((xs.map f).flatten.map D.av).drop (j * i.size)).take i.size) = (f xs[j]).map D.av := by
  rw [hsplit, List.map_append, List.map_append, List.drop_left' (by rw [List.length_map, htl]), List.take_left' (by rw [List.length_map, hsz])]
 have hr1 : ((cur.toList.take (xs.length * i.size)).drop (j * i.size)).take i.size = (cur.toList.drop (j * i.size)).take i.size := by
  rw [List.drop_take, List.take_take, Nat.min_eq_left (by omega)]
 have hrels := rels_take i.size (rels_drop (j * i.size) hrel)
 rw [hl1, hr1] at hrels
 refine ⟨.agg ((cur.toList.drop (j * i.size)).take i.size).toArray, ⟨_, rfl, hrels⟩, fun w' hw' => ?_⟩
 have hheap : w'.heap[gb]? = some (.cells cur E (0, 0)) := (hw'.own gb (mem_blks hm rfl)).trans hg
 have hload := run_loadCells_list (P := P) w' ⟨gb, j * i.size, none⟩ ((cur.toList.drop (j * i.size)).take i.size) fun u v hv => by
  rw [Addr.add_lit, cell_of_row w' gb (j * i.size + u) cur E (0, 0) hheap]
  rw [List.getElem?_take] at hv
  split at hv
  · rw [List.getElem?_drop] at hv; simpa using hv
  · cases hv
 have hln : ((cur.toList.drop (j * i.size)).take i.size).length = i.size := by
  rw [List.length_take, List.length_drop]; omega
 rw [hln] at hload
 simp [execOp, e1, Instr.loadAt, Instr.sureAddr, loadVar, run_isAgg hT, sizeOf, typeInfo, hi, hload]
end
end Go.Av
namespace Go.Sp
open Go Go.Av
set_option linter.unusedVariables false
set_option linter.unusedSimpArgs false

instance : DecidableEq Fo := fun a b => decidable_of_iff (a.kind = b.kind ∧ a.val = b.val) ⟨fun h => Fo.ext' h.1 h.2, fun h => by subst h; exact ⟨rfl, rfl⟩⟩
def plc (b : Fo) : List Fo → Nat
 | [] => 0
 | a :: l => if a = b then 0 else plc b l + 1
theorem plc_le (b : Fo) : ∀ l : List Fo, plc b l ≤ l.length
 | [] => Nat.le_refl _
 | a :: l => by
   have := plc_le b l
   rw [plc]; split
   · exact Nat.zero_le _
   · simp; omega
theorem plc_in {b : Fo} : ∀ {l : List Fo}, b ∈ l ↔ plc b l < l.length
 | [] => by simp [plc]
 | a :: l => by
   rw [List.mem_cons, plc]
   by_cases h : a = b
   · rw [if_pos h]; simp [h]
   · rw [if_neg h, List.length_cons, plc_in (l := l)]
     exact ⟨fun k => k.elim (fun e => absurd e.symm h) (fun k => by omega), fun k => .inr (by omega)⟩
theorem plc_out {b : Fo} {l : List Fo} (h : b ∉ l) : plc b l = l.length := by
 have h1 := plc_le b l
 have h2 : ¬ plc b l < l.length := fun k => h (plc_in.2 k)
 omega
def addS (sp : List Fo) (b : Fo) : List Fo := if b ∈ sp then sp else sp ++ [b]
theorem addS_in {sp : List Fo} {b : Fo} (h : b ∈ sp) : addS sp b = sp := if_pos h
theorem addS_out {sp : List Fo} {b : Fo} (h : b ∉ sp) : addS sp b = sp ++ [b] := if_neg h
theorem addS_len (sp : List Fo) (b : Fo) : sp.length ≤ (addS sp b).length := by
 unfold addS; split
 · exact Nat.le_refl _
 · simp
def rndF : List Fo → List Fo → List Fo × List Int
 | sp, [] => (sp, [])
 | sp, b :: bs => ((rndF (addS sp b) bs).1, (plc b sp : Int) :: (rndF (addS sp b) bs).2)
theorem rndF_len : ∀ (bs sp : List Fo), sp.length ≤ (rndF sp bs).1.length
 | [], sp => Nat.le_refl _
 | b :: bs, sp => Nat.le_trans (addS_len sp b) (rndF_len bs _)
theorem rndF_more : ∀ (bs sp : List Fo), (rndF sp bs).1.length ≤ sp.length + bs.length
 | [], sp => by simp [rndF]
 | b :: bs, sp => by
   have h1 := rndF_more bs (addS sp b)
   have h2 : (addS sp b).length ≤ sp.length + 1 := by unfold addS; split <;> simp
   rw [rndF, List.length_cons]; dsimp only; omega
theorem rndF_places : ∀ (bs sp : List Fo), (rndF sp bs).2.length = bs.length
 | [], sp => rfl
 | b :: bs, sp => by rw [rndF]; simp [rndF_places bs]
structure Exp where
 spots : List Fo
 next : List (List Int)
 sets : List Int
noncomputable def expF (t : Tk) : Nat → Nat → List Fo → List (List Int) → List Int → Option Exp
 | 0, _, _, _, _ => none
 | f + 1, i, sp, nx, st =>
   match sp[i]? with
   | none => some ⟨sp, nx, st⟩
   | some s =>
     if 20000 < (rndF sp (behindF t s.kind s.val).1).1.length then none
     else expF t f (i + 1) (rndF sp (behindF t s.kind s.val).1).1 (nx ++ [(rndF sp (behindF t s.kind s.val).1).2]) (st ++ [(meetsOf t.formula (letF t.model t.props s.kind).1 s.val).1])
theorem expF_end (t : Tk) (f i : Nat) (sp : List Fo) (nx : List (List Int)) (st : List Int) (h : sp.length ≤ i) : expF t (f + 1) i sp nx st = some ⟨sp, nx, st⟩ := by
 rw [expF, List.getElem?_eq_none h]
theorem expF_full (t : Tk) (f i : Nat) (sp : List Fo) (nx : List (List Int)) (st : List Int) (h : i < sp.length) (hl : 20000 < (rndF sp (behindF t sp[i].kind sp[i].val).1).1.length) : expF t (f + 1) i sp nx st = none := by
 rw [expF, List.getElem?_eq_getElem h]; exact if_pos hl
theorem expF_at (t : Tk) (f i : Nat) (sp : List Fo) (nx : List (List Int)) (st : List Int) (h : i < sp.length) (hl : ¬ 20000 < (rndF sp (behindF t sp[i].kind sp[i].val).1).1.length) : expF t (f + 1) i sp nx st = expF t f (i + 1) (rndF sp (behindF t sp[i].kind sp[i].val).1).1 (nx ++ [(rndF sp (behindF t sp[i].kind sp[i].val).1).2]) (st ++ [(meetsOf t.formula (letF t.model t.props sp[i].kind).1 sp[i].val).1]) := by
 rw [expF, List.getElem?_eq_getElem h]; exact if_neg hl
noncomputable def exploreF (t : Tk) : Option Exp × Int :=
 if taskF t ≠ 0 then (none, taskF t)
 else match expF t 20002 0 (beginF t).1 [] [] with
  | none => (none, 12)
  | some e => (some e, 0)
theorem begin_nodup (t : Tk) (n : Nat) : (beginL t n).Nodup := by
 unfold beginL
 refine List.Pairwise.map _ (fun a b h e => h ?_) ((List.nodup_range (n := n)).filter _)
 have := congrArg Fo.val e
 exact Int.ofNat.inj this
def spV (s : Fo) : Value := .agg #[.int .i64 s.kind, .int .i64 s.val]
def natV (n : Nat) : Value := .int .i64 n
def plcs (sp : List Fo) : List (Fo × Nat) := sp.zipIdx
theorem plcs_snoc (sp : List Fo) (b : Fo) : plcs (sp ++ [b]) = plcs sp ++ [(b, sp.length)] := by
 unfold plcs; rw [List.zipIdx_append]; simp
theorem getM_plcs (b : Fo) : ∀ (sp : List Fo) (i : Nat), getM (sp.zipIdx i) b = if b ∈ sp then some (plc b sp + i) else none
 | [], i => by simp [getM]
 | a :: sp, i => by
   have ih := getM_plcs b sp (i + 1)
   rw [List.zipIdx_cons]
   by_cases h : a = b
   · subst h
     simp [getM, plc]
   · have hb : ¬ b = a := fun e => h e.symm
     have e : getM ((a, i) :: sp.zipIdx (i + 1)) b = getM (sp.zipIdx (i + 1)) b := by simp [getM, h]
     rw [e, ih, plc, if_neg h]
     by_cases hm : b ∈ sp
     · rw [if_pos hm, if_pos (List.mem_cons_of_mem _ hm)]; congr 1; omega
     · rw [if_neg hm, if_neg (fun k => by rcases List.mem_cons.1 k with k | k; exact hb k; exact hm k)]
theorem getM_in {b : Fo} {sp : List Fo} (h : b ∈ sp) : getM (plcs sp) b = some (plc b sp) := by
 have := getM_plcs b sp 0
 rw [if_pos h] at this; exact this
theorem getM_out {b : Fo} {sp : List Fo} (h : b ∉ sp) : getM (plcs sp) b = none := by
 have := getM_plcs b sp 0
 rw [if_neg h] at this; exact this
end Go.Sp
namespace Go.Proofs.YtniklgkoiaeipaaGreatDoor
open Go Go.Av
set_option linter.unusedVariables false
set_option linter.unusedSimpArgs false
set_option maxRecDepth 100000
set_option maxHeartbeats 4000000
theorem fd_atlas0 : Fld Tryz.prog 96 0 0 := by unfold Fld; kernel_rfl
instance : FdC Tryz.prog 96 0 0 := ⟨fd_atlas0⟩
theorem fd_atlas1 : Fld Tryz.prog 96 1 5 := by unfold Fld; kernel_rfl
instance : FdC Tryz.prog 96 1 5 := ⟨fd_atlas1⟩
theorem bls_atlas : Bls Tryz.prog 96 [.slice none 0 0, .int .i64 0, .slice none 0 0, .slice none 0 0, .int .i64 0, .map none] [(0, 5), (5, 1)] := by unfold Bls; kernel_rfl
instance : BlsC Tryz.prog 96 [.slice none 0 0, .int .i64 0, .slice none 0 0, .slice none 0 0, .int .i64 0, .map none] [(0, 5), (5, 1)] := ⟨bls_atlas⟩
end Go.Proofs.YtniklgkoiaeipaaGreatDoor
namespace Go.Proofs.YtniklgkoiaeipaaGreatDoor
open Go Go.Av Go.Sp
set_option linter.unusedVariables false
set_option linter.unusedSimpArgs false
set_option maxRecDepth 100000
set_option maxHeartbeats 4000000
theorem cal_place : Cal Tryz.prog 44 := Cal.of Tryz.func44 (by kernel_rfl) (by kernel_rfl)
theorem cal_spotAt : Cal Tryz.prog 51 := Cal.of Tryz.func51 (by kernel_rfl) (by kernel_rfl)
theorem spK : KeyF Tryz.prog 98 spV :=
 keyF_struct Tryz.underlying98 (fun a b w => by
  have h := eq2_Spot.2 a.kind a.val b.kind b.val w
  have e : (a.kind == b.kind && a.val == b.val) = decide (a = b) := by
   by_cases k : a = b
   · subst k; simp
   · rw [decide_eq_false k]
     cases hh : (a.kind == b.kind && a.val == b.val) with
     | false => rfl
     | true => simp only [Bool.and_eq_true, beq_iff_eq] at hh; exact absurd (Fo.ext' hh.1 hh.2) k
  rw [e] at h
  exact h) fun e a w => by cases e <;> kernel_rfl
theorem sp_rel (b : Fo) (w : World) (I : Nat → Prop) (v : Value) (h : AV.rel w I (.agg [.int b.kind, .int b.val]) v) : v = spV b := by
 obtain ⟨vs, e, r⟩ := h
 match vs, r with
 | [p, q], ⟨h1, h2, _⟩ => cases h1; cases h2; exact e
theorem pu_lookF2 {P : Program} {G : List (Nat × List D)} {ρ : Env} {h : H} {dst : Option Tmp} {ty : TypeId} {pos : String} {after : Array Edge} {g : Option (Nat × Bool)} {α β : Type} [DecidableEq α] {kv : α → Value} {vv : β → Value} {T KT ET : TypeId} (K : KeyF P KT kv) {x y : Operand} {s : AV} {b : Nat} {ps : List (α × β)} {a : α} {z : Value} {sz eb : Nat} {c : β}
 (hx : evO ρ x = some (.val (.map (some b)))) (hy : evO ρ y = some s) (hs : ∀ w I v, AV.rel w I s v → v = kv a) (hT : P.underlying T = some (.map KT ET)) (hE : El P ET z sz eb) (hm : Ent.raw b (mapO (entL kv vv ps)) ∈ h) (hg : getM ps a = some c) :
 Pure P G ⟨dst, .lookup T x y true, ty, pos, after, g⟩ ρ h (.tup [.val (vv c), .bool true]) := by
 have := pu_lookF (vv := vv) (dst := dst) (ty := ty) (pos := pos) (after := after) (g := g) (G := G) K hx hy hs hT hE hm
 rwa [hg] at this
theorem pu_lookF0 {P : Program} {G : List (Nat × List D)} {ρ : Env} {h : H} {dst : Option Tmp} {ty : TypeId} {pos : String} {after : Array Edge} {g : Option (Nat × Bool)} {α β : Type} [DecidableEq α] {kv : α → Value} {vv : β → Value} {T KT ET : TypeId} (K : KeyF P KT kv) {x y : Operand} {s : AV} {b : Nat} {ps : List (α × β)} {a : α} {z : Value} {sz eb : Nat}
 (hx : evO ρ x = some (.val (.map (some b)))) (hy : evO ρ y = some s) (hs : ∀ w I v, AV.rel w I s v → v = kv a) (hT : P.underlying T = some (.map KT ET)) (hE : El P ET z sz eb) (hm : Ent.raw b (mapO (entL kv vv ps)) ∈ h) (hg : getM ps a = none) :
 Pure P G ⟨dst, .lookup T x y true, ty, pos, after, g⟩ ρ h (.tup [.val z, .bool false]) := by
 have := pu_lookF (vv := vv) (dst := dst) (ty := ty) (pos := pos) (after := after) (g := g) (G := G) K hx hy hs hT hE hm
 rwa [hg] at this
theorem place_old (ba bm : Nat) (q : Sl) (init many : Int) (a2 a3 : AV) (sp : List Fo) (b : Fo) (hb : b ∈ sp) :
 AC Tryz.prog GP 44 [.val (.pointer (some ⟨ba, 0, none⟩)), .agg [.int b.kind, .int b.val]] [.cells ba 96 [.val q.v, .int init, a2, a3, .int many, .val (.map (some bm))], rowE q.v 98 2 Fo.cells sp, .raw bm (mapO (entL spV natV (plcs sp)))] fun e h => ∃ _ : Unit, e = .ret (.tup [.int (plc b sp), .bool true]) ∧ h = [.cells ba 96 [.val q.v, .int init, a2, a3, .int many, .val (.map (some bm))], rowE q.v 98 2 Fo.cells sp, .raw bm (mapO (entL spV natV (plcs sp)))] := by
 have hg := getM_in hb
 refine AC_ofV (ts := [4, 5]) Tryz.f44.ntmps Tryz.func44 rfl rfl rfl (by simp [Tryz.ntmps44]) fun W I => ?_
 all_goals haveI fA_ : FlagA := ⟨⟩
 repeat' (first
  | ((with_reducible apply jqp); (focus ((with_reducible apply (pu_lookF2 (vv := natV) (a := b) spK)); (focus rfl); (focus rfl); (focus exact sp_rel b); (focus rfl); (focus (with_reducible exact ElC.h)); (focus exact memD); (focus assumption))); (focus rfl))
  | ((with_reducible apply jp); (focus ((with_reducible apply (pu_lookF2 (vv := natV) (a := b) spK)); (focus rfl); (focus rfl); (focus exact sp_rel b); (focus rfl); (focus (with_reducible exact ElC.h)); (focus exact memD); (focus assumption))); (focus rfl))
  | exact True.intro
  | refine stp ?_
  | refine two ?_ ?_
  | (refine imp fun hc => ?_) <;> try exact cx hc
  | refine all fun v_ => ?_)
 all_goals clear fA_
 refine retv (VS.take (hc := [.cells ba 96 [.val q.v, .int init, a2, a3, .int many, .val (.map (some bm))], rowE q.v 98 2 Fo.cells sp, .raw bm (mapO (entL spV natV (plcs sp)))]) (by exact takedD) (Env.le_refl _)) ?_
 ((with_reducible apply rq2); rfl; rfl; rfl)
 exact ⟨(), rfl, rfl⟩
theorem place_new (ba bm : Nat) (q : Sl) (init many : Int) (a2 a3 : AV) (sp : List Fo) (b : Fo) (hb : b ∉ sp) (hl : sp.length < 20000) :
 AC Tryz.prog GP 44 [.val (.pointer (some ⟨ba, 0, none⟩)), .agg [.int b.kind, .int b.val]] [.cells ba 96 [.val q.v, .int init, a2, a3, .int many, .val (.map (some bm))], rowE q.v 98 2 Fo.cells sp, .raw bm (mapO (entL spV natV (plcs sp)))] fun e h => ∃ p : Sl, e = .ret (.tup [.int (plc b sp), .bool true]) ∧ h = [.cells ba 96 [.val p.v, .int init, a2, a3, .int many, .val (.map (some bm))], rowE p.v 98 2 Fo.cells (sp ++ [b]), .raw bm (mapO (entL spV natV (plcs (sp ++ [b]))))] := by
 have hg := getM_out hb
 refine AC_ofV (ts := [4, 5]) Tryz.f44.ntmps Tryz.func44 rfl rfl rfl (by simp [Tryz.ntmps44]) fun W I => ?_
 all_goals haveI fA_ : FlagA := ⟨⟩
 all_goals haveI fS_ : StopAt 2 := ⟨⟩
 repeat' (first
  | ((with_reducible apply jqp); (focus ((with_reducible apply (pu_lookF0 (vv := natV) (a := b) spK)); (focus rfl); (focus rfl); (focus exact sp_rel b); (focus rfl); (focus (with_reducible exact ElC.h)); (focus exact memD); (focus assumption))); (focus rfl))
  | ((with_reducible apply jp); (focus ((with_reducible apply (pu_lookF0 (vv := natV) (a := b) spK)); (focus rfl); (focus rfl); (focus exact sp_rel b); (focus rfl); (focus (with_reducible exact ElC.h)); (focus exact memD); (focus assumption))); (focus rfl))
  | ((with_reducible apply (js_putF spK (vv := natV) (a := b) (c := sp.length))); (focus rfl); (focus rfl); (focus exact sp_rel b); (focus rfl); (focus exact fun _ _ _ h => h); (focus rfl); (focus exact updD); (focus assumption))
  | exact True.intro
  | refine stp ?_
  | refine two ?_ ?_
  | refine allc fun c_ => ?_
  | (refine imp fun hc => ?_) <;> try exact cx hc
  | refine all fun v_ => ?_)
 all_goals clear fA_ fS_
 refine ⟨?_⟩
 refine J_region_HB [rowE q.v 98 2 Fo.cells sp] mixed rfl (by (repeat ((with_reducible apply Hd.cons); (focus rfl))); exact Hd.nil) (by (repeat (with_reducible apply len_cons)); exact len_nil) (by decide +kernel) (by ((repeat (first | with_reducible exact Take.nil | ((with_reducible apply Take.cons); (focus ((repeat (first | with_reducible exact Sel.here | with_reducible apply Sel.there)); done))))); done)) ?_
 all_goals haveI fA_ : FlagA := ⟨⟩
 all_goals haveI fH_ : FlagH := ⟨⟩
 repeat' (first
  | ((with_reducible apply (japU1 (f := Fo.cells) (u := b))); (focus rfl); (focus rfl); (focus (with_reducible exact ElC.h)); (focus exact updqD); (focus rfl); (focus rfl); (focus rfl); (focus rfl); (focus exact bndD); (focus exact bndD))
  | exact True.intro
  | refine stp ?_
  | refine two ?_ ?_
  | refine allc fun c_ => ?_
  | (refine imp fun hc => ?_) <;> try exact cx1 hc
  | refine all fun v_ => ?_)
 all_goals clear fA_ fH_
 have e1 := plc_out hb
 rw [plcs_snoc, e1]
 refine retv (VS.take (hc := [.cells ba 96 [.val v_.v, .int init, a2, a3, .int many, .val (.map (some bm))], rowE v_.v 98 2 Fo.cells (sp ++ [b]), .raw bm (mapO (entL spV natV (plcs sp ++ [(b, sp.length)])))]) (by exact takedD) (Env.le_refl _)) ?_
 ((with_reducible apply rq2); rfl; rfl; rfl)
 exact ⟨v_, rfl, rfl⟩
theorem place_full (ba bm : Nat) (q : Sl) (init many : Int) (a2 a3 : AV) (sp : List Fo) (b : Fo) (hb : b ∉ sp) (hl : sp.length = 20000) :
 AC Tryz.prog GP 44 [.val (.pointer (some ⟨ba, 0, none⟩)), .agg [.int b.kind, .int b.val]] [.cells ba 96 [.val q.v, .int init, a2, a3, .int many, .val (.map (some bm))], rowE q.v 98 2 Fo.cells sp, .raw bm (mapO (entL spV natV (plcs sp)))] fun e h => ∃ _ : Unit, e = .ret (.tup [.int 0, .bool false]) ∧ h = [.cells ba 96 [.val q.v, .int init, a2, a3, .int many, .val (.map (some bm))], rowE q.v 98 2 Fo.cells sp, .raw bm (mapO (entL spV natV (plcs sp)))] := by
 have hg := getM_out hb
 refine AC_ofV (ts := [4, 5]) Tryz.f44.ntmps Tryz.func44 rfl rfl rfl (by simp [Tryz.ntmps44]) fun W I => ?_
 all_goals haveI fA_ : FlagA := ⟨⟩
 repeat' (first
  | ((with_reducible apply jqp); (focus ((with_reducible apply (pu_lookF0 (vv := natV) (a := b) spK)); (focus rfl); (focus rfl); (focus exact sp_rel b); (focus rfl); (focus (with_reducible exact ElC.h)); (focus exact memD); (focus assumption))); (focus rfl))
  | ((with_reducible apply jp); (focus ((with_reducible apply (pu_lookF0 (vv := natV) (a := b) spK)); (focus rfl); (focus rfl); (focus exact sp_rel b); (focus rfl); (focus (with_reducible exact ElC.h)); (focus exact memD); (focus assumption))); (focus rfl))
  | exact True.intro
  | refine stp ?_
  | refine two ?_ ?_
  | (refine imp fun hc => ?_) <;> try exact cx hc
  | refine all fun v_ => ?_)
 all_goals clear fA_
 refine retv (VS.take (hc := [.cells ba 96 [.val q.v, .int init, a2, a3, .int many, .val (.map (some bm))], rowE q.v 98 2 Fo.cells sp, .raw bm (mapO (entL spV natV (plcs sp)))]) (by exact takedD) (Env.le_refl _)) ?_
 ((with_reducible apply rq2); rfl; rfl; rfl)
 exact ⟨(), rfl, rfl⟩
theorem pu_eqlF {P : Program} {G : List (Nat × List D)} {ρ : Env} {h : H} {dst : Option Tmp} {ty : TypeId} {pos : String} {after : Array Edge} {g : Option (Nat × Bool)} {T T' : TypeId} {x y : Operand} {a b : Fo} (hT : Eq2 P T) (hx : evO ρ x = some (.agg [.int a.kind, .int a.val])) (hy : evO ρ y = some (.agg [.int b.kind, .int b.val])) :
 Pure P G ⟨dst, .binOp .eql T x y T', ty, pos, after, g⟩ ρ h (.bool (decide (a = b))) := by
 have e : decide (a = b) = (a.kind == b.kind && a.val == b.val) := by
  by_cases k : a = b
  · subst k; simp
  · rw [decide_eq_false k]
    cases hh : (a.kind == b.kind && a.val == b.val) with
    | false => rfl
    | true => simp only [Bool.and_eq_true, beq_iff_eq] at hh; exact absurd (Fo.ext' hh.1 hh.2) k
 rw [e]
 exact pure_free fun w I _ s k => ⟨_, rfl, fun w' => by
  obtain ⟨vs, e1, r1⟩ := rel_as (k.ev x) (ev_of_evO hx)
  obtain ⟨us, e2, r2⟩ := rel_as (k.ev y) (ev_of_evO hy)
  obtain ⟨rfl⟩ : vs = [.int .i64 a.kind, .int .i64 a.val] := by
   match vs, r1 with
   | [p, q], ⟨h1, h2, _⟩ => cases h1; cases h2; rfl
  obtain ⟨rfl⟩ : us = [.int .i64 b.kind, .int .i64 b.val] := by
   match us, r2 with
   | [p, q], ⟨h1, h2, _⟩ => cases h1; cases h2; rfl
  simp [execOp, e1, e2, run_eqGuard_agg _ _ _ _ _ _ _ hT.1, run_eql_struct, hT.2]⟩
theorem pu_eqlT {P : Program} {G : List (Nat × List D)} {ρ : Env} {h : H} {dst : Option Tmp} {ty : TypeId} {pos : String} {after : Array Edge} {g : Option (Nat × Bool)} {T T' : TypeId} {x y : Operand} {a b : Fo} (hT : Eq2 P T) (hx : evO ρ x = some (.agg [.int a.kind, .int a.val])) (hy : evO ρ y = some (.agg [.int b.kind, .int b.val])) (he : a = b) :
 Pure P G ⟨dst, .binOp .eql T x y T', ty, pos, after, g⟩ ρ h (.bool true) := by
 have := pu_eqlF (G := G) (h := h) (dst := dst) (ty := ty) (pos := pos) (after := after) (g := g) (T' := T') hT hx hy
 rwa [decide_eq_true he] at this
theorem pu_eqlN {P : Program} {G : List (Nat × List D)} {ρ : Env} {h : H} {dst : Option Tmp} {ty : TypeId} {pos : String} {after : Array Edge} {g : Option (Nat × Bool)} {T T' : TypeId} {x y : Operand} {a b : Fo} (hT : Eq2 P T) (hx : evO ρ x = some (.agg [.int a.kind, .int a.val])) (hy : evO ρ y = some (.agg [.int b.kind, .int b.val])) (he : ¬ a = b) :
 Pure P G ⟨dst, .binOp .eql T x y T', ty, pos, after, g⟩ ρ h (.bool false) := by
 have := pu_eqlF (G := G) (h := h) (dst := dst) (ty := ty) (pos := pos) (after := after) (g := g) (T' := T') hT hx hy
 rwa [decide_eq_false he] at this
theorem plc_drop (b : Fo) (sp : List Fo) (i : Nat) (h : i < sp.length) : plc b (sp.drop i) = if sp[i] = b then 0 else plc b (sp.drop (i + 1)) + 1 := by
 rw [List.drop_eq_getElem_cons h, plc]
theorem spotAt (G : List (Nat × List D)) (sp : List Fo) (b : Fo) (hl : sp.length ≤ 1000000) : ACr Tryz.prog G 51 [.d (opsD sp), .agg [.int b.kind, .int b.val]] (.int (if b ∈ sp then (plc b sp : Int) else -1)) := by
 refine AC_ofV (ts := [4]) Tryz.f51.ntmps Tryz.func51 rfl rfl rfl (by simp [Tryz.ntmps51]) fun W I => ?_
 all_goals haveI fA_ : FlagA := ⟨⟩
 repeat' (first
  | ((with_reducible apply jqp); (focus ((with_reducible apply (pu_eqlT eq2_Spot)); (focus rfl); (focus rfl); (focus assumption))); (focus rfl))
  | ((with_reducible apply jqp); (focus ((with_reducible apply (pu_eqlN eq2_Spot)); (focus rfl); (focus rfl); (focus assumption))); (focus rfl))
  | ((with_reducible apply jp); (focus ((with_reducible apply (pu_eqlT eq2_Spot)); (focus rfl); (focus rfl); (focus assumption))); (focus rfl))
  | ((with_reducible apply jp); (focus ((with_reducible apply (pu_eqlN eq2_Spot)); (focus rfl); (focus rfl); (focus assumption))); (focus rfl))
  | exact True.intro
  | refine stp ?_
  | refine two ?_ ?_
  | (refine imp fun hc => ?_) <;> try exact cx hc
  | refine all fun v_ => ?_)
 all_goals clear fA_
 obtain ⟨bs, rfl⟩ : ∃ x, x = v_ := ⟨v_, rfl⟩
 refine J_loopV (X := Nat) (fun i => [(0, .d (opsD sp)), (3, .val (.pointer (some ⟨bs, 0, none⟩))), (5, .int i)]) (fun _ => [.cells bs 98 [.int b.kind, .int b.val]]) (fun i => i ≤ sp.length ∧ plc b sp = i + plc b (sp.drop i) ∧ (b ∈ sp ↔ b ∈ sp.drop i)) (fun i => sp.length - i) 0 ⟨Nat.zero_le _, by simp, by simp⟩ (VS.of_le ?_) ?_
 · exact leD
 rintro i ⟨h1, h2, h3⟩
 by_cases hi : i < sp.length
 · rw [plc_drop b sp i hi] at h2
   by_cases he : sp[i] = b
   · rw [if_pos he] at h2
     have hm : b ∈ sp := by rw [← he]; exact List.getElem_mem hi
     all_goals haveI fA_ : FlagA := ⟨⟩
     repeat' (first
      | ((with_reducible apply jqp); (focus ((with_reducible apply (pu_eqlT eq2_Spot)); (focus rfl); (focus rfl); (focus assumption))); (focus rfl))
      | ((with_reducible apply jqp); (focus ((with_reducible apply (pu_eqlN eq2_Spot)); (focus rfl); (focus rfl); (focus assumption))); (focus rfl))
      | ((with_reducible apply jp); (focus ((with_reducible apply (pu_eqlT eq2_Spot)); (focus rfl); (focus rfl); (focus assumption))); (focus rfl))
      | ((with_reducible apply jp); (focus ((with_reducible apply (pu_eqlN eq2_Spot)); (focus rfl); (focus rfl); (focus assumption))); (focus rfl))
      | exact True.intro
      | refine stp ?_
      | refine two ?_ ?_
      | (refine imp fun hc => ?_) <;> try exact cx hc
      | refine all fun v_ => ?_)
     all_goals clear fA_
     refine retv (VS.drop (List.nil_sublist _)) ?_
     ((with_reducible apply rq1); rfl; rfl)
     exact ret_eq (by rw [if_pos hm, h2]; rfl)
   · rw [if_neg he] at h2
     have hm : b ∈ sp ↔ b ∈ sp.drop (i + 1) := by
      rw [h3, List.drop_eq_getElem_cons hi, List.mem_cons]
      exact ⟨fun k => k.resolve_left fun e => he e.symm, .inr⟩
     all_goals haveI fA_ : FlagA := ⟨⟩
     repeat' (first
      | ((with_reducible apply jqp); (focus ((with_reducible apply (pu_eqlT eq2_Spot)); (focus rfl); (focus rfl); (focus assumption))); (focus rfl))
      | ((with_reducible apply jqp); (focus ((with_reducible apply (pu_eqlN eq2_Spot)); (focus rfl); (focus rfl); (focus assumption))); (focus rfl))
      | ((with_reducible apply jp); (focus ((with_reducible apply (pu_eqlT eq2_Spot)); (focus rfl); (focus rfl); (focus assumption))); (focus rfl))
      | ((with_reducible apply jp); (focus ((with_reducible apply (pu_eqlN eq2_Spot)); (focus rfl); (focus rfl); (focus assumption))); (focus rfl))
      | exact True.intro
      | refine stp ?_
      | refine two ?_ ?_
      | (refine imp fun hc => ?_) <;> try exact cx hc
      | refine all fun v_ => ?_)
     all_goals clear fA_
     refine ⟨i + 1, ⟨hi, by omega, hm⟩, by omega, VS.of_le ?_⟩
     exact leD
 have hm : b ∉ sp := by rw [h3, List.drop_of_length_le (by omega)]; exact List.not_mem_nil
 all_goals haveI fA_ : FlagA := ⟨⟩
 repeat' (first
  | ((with_reducible apply jqp); (focus ((with_reducible apply (pu_eqlT eq2_Spot)); (focus rfl); (focus rfl); (focus assumption))); (focus rfl))
  | ((with_reducible apply jqp); (focus ((with_reducible apply (pu_eqlN eq2_Spot)); (focus rfl); (focus rfl); (focus assumption))); (focus rfl))
  | ((with_reducible apply jp); (focus ((with_reducible apply (pu_eqlT eq2_Spot)); (focus rfl); (focus rfl); (focus assumption))); (focus rfl))
  | ((with_reducible apply jp); (focus ((with_reducible apply (pu_eqlN eq2_Spot)); (focus rfl); (focus rfl); (focus assumption))); (focus rfl))
  | exact True.intro
  | refine stp ?_
  | refine two ?_ ?_
  | (refine imp fun hc => ?_) <;> try exact cx hc
  | refine all fun v_ => ?_)
 all_goals clear fA_
 refine retv (VS.drop (List.nil_sublist _)) ?_
 ((with_reducible apply rq1); rfl; rfl)
 exact ret_eq (by rw [if_neg hm])
end Go.Proofs.YtniklgkoiaeipaaGreatDoor
namespace Go.Sp
open Go Go.Av
set_option linter.unusedVariables false
set_option linter.unusedSimpArgs false

end Go.Sp
namespace Go.Sp
open Go Go.Av
set_option linter.unusedVariables false
set_option linter.unusedSimpArgs false

theorem addS_pre (sp : List Fo) (b : Fo) : ∃ r, addS sp b = sp ++ r := by
 unfold addS
 split
 · exact ⟨[], by simp⟩
 · exact ⟨[b], rfl⟩
theorem rndF_pre : ∀ (bs sp : List Fo), ∃ r, (rndF sp bs).1 = sp ++ r
 | [], sp => ⟨[], by simp [rndF]⟩
 | b :: bs, sp => by
   obtain ⟨r, h⟩ := addS_pre sp b
   obtain ⟨r', h'⟩ := rndF_pre bs (addS sp b)
   exact ⟨r ++ r', by rw [rndF]; dsimp only; rw [h', h, List.append_assoc]⟩
theorem addS_nodup {sp : List Fo} (h : sp.Nodup) (b : Fo) : (addS sp b).Nodup := by
 unfold addS
 by_cases hb : b ∈ sp
 · rw [if_pos hb]; exact h
 · rw [if_neg hb, List.nodup_append]
   exact ⟨h, by simp, fun x hx y hy e => by rw [List.mem_singleton.1 hy] at e; exact hb (e ▸ hx)⟩
theorem rndF_nodup : ∀ (bs : List Fo) {sp : List Fo}, sp.Nodup → (rndF sp bs).1.Nodup
 | [], _, h => h
 | b :: bs, _, h => rndF_nodup bs (addS_nodup h b)
theorem pre_get {α : Type} {a b r : List α} (h : b = a ++ r) {i : Nat} {x : α} (hx : a[i]? = some x) : b[i]? = some x := by
 rw [h, List.getElem?_append_left (List.getElem?_eq_some_iff.1 hx).1]; exact hx
noncomputable def spF (t : Tk) : Nat → List Fo
 | 0 => (beginF t).1
 | i + 1 => match (spF t i)[i]? with
   | none => spF t i
   | some s => (rndF (spF t i) (behindF t s.kind s.val).1).1
noncomputable def plF (t : Tk) (i : Nat) : List Int := match (spF t i)[i]? with
 | none => []
 | some s => (rndF (spF t i) (behindF t s.kind s.val).1).2
noncomputable def seF (t : Tk) (i : Nat) : Int := match (spF t i)[i]? with
 | none => 0
 | some s => (meetsOf t.formula (letF t.model t.props s.kind).1 s.val).1
theorem spF_pre (t : Tk) (i : Nat) : ∀ d, ∃ r, spF t (i + d) = spF t i ++ r
 | 0 => ⟨[], by simp⟩
 | d + 1 => by
   obtain ⟨r, h⟩ := spF_pre t i d
   rw [← Nat.add_assoc, spF]
   split
   · exact ⟨r, h⟩
   · obtain ⟨r', h'⟩ := rndF_pre _ (spF t (i + d))
     exact ⟨r ++ r', by rw [h', h, List.append_assoc]⟩
theorem spF_le (t : Tk) {i j : Nat} (h : i ≤ j) : (spF t i).length ≤ (spF t j).length := by
 obtain ⟨r, hr⟩ := spF_pre t i (j - i)
 rw [show i + (j - i) = j by omega] at hr
 rw [hr, List.length_append]; omega
theorem spF_at (t : Tk) {i j k : Nat} (h : i ≤ j) {s : Fo} (hs : (spF t i)[k]? = some s) : (spF t j)[k]? = some s := by
 obtain ⟨r, hr⟩ := spF_pre t i (j - i)
 rw [show i + (j - i) = j by omega] at hr
 exact pre_get hr hs
theorem spF_nodup (t : Tk) : ∀ i, (spF t i).Nodup
 | 0 => by
   unfold spF beginF
   split
   · exact List.nodup_nil
   · exact begin_nodup _ _
 | i + 1 => by
   rw [spF]
   split
   · exact spF_nodup t i
   · exact rndF_nodup _ (spF_nodup t i)
structure Grown (t : Tk) (e : Exp) : Prop where
 task : taskF t = 0
 spots : e.spots = spF t e.spots.length
 next : e.next = (List.range e.spots.length).map (plF t)
 sets : e.sets = (List.range e.spots.length).map (seF t)
 few : e.spots.length ≤ 20000
 room : ∀ j, j < e.spots.length → j < (spF t j).length
section
variable {t : Tk} {e : Exp}
theorem Grown.at (g : Grown t e) {j : Nat} (h : j < e.spots.length) : (spF t j)[j]? = some e.spots[j] := by
 have h1 := g.room j h
 have h2 := spF_at t (Nat.le_of_lt h) (List.getElem?_eq_getElem h1)
 rw [← g.spots, List.getElem?_eq_getElem h] at h2
 rw [h2, List.getElem?_eq_getElem h1]
theorem Grown.get (g : Grown t e) {p : Nat} {b : Fo} (h : (spF t e.spots.length)[p]? = some b) : e.spots[p]? = some b := by
 have hs := g.spots
 generalize e.spots.length = n at hs h
 rw [hs]; exact h
theorem Grown.first (g : Grown t e) {p : Nat} (h : p < (beginF t).1.length) : e.spots[p]? = some (beginF t).1[p] :=
 g.get (spF_at t (i := 0) (Nat.zero_le _) (List.getElem?_eq_getElem h))
end
end Go.Sp
namespace Go.Sp
open Go Go.Av
set_option linter.unusedVariables false
set_option linter.unusedSimpArgs false

theorem rndF_snoc (b : Fo) : ∀ (bs sp : List Fo), rndF sp (bs ++ [b]) = (addS (rndF sp bs).1 b, (rndF sp bs).2 ++ [(plc b (rndF sp bs).1 : Int)])
 | [], sp => by simp [rndF]
 | c :: bs, sp => by
   rw [List.cons_append, rndF, rndF_snoc b bs]
   simp [rndF]
theorem rndF_take (bs sp : List Fo) (k : Nat) (h : k < bs.length) : rndF sp (bs.take (k + 1)) = (addS (rndF sp (bs.take k)).1 bs[k], (rndF sp (bs.take k)).2 ++ [(plc bs[k] (rndF sp (bs.take k)).1 : Int)]) := by
 rw [List.take_succ_eq_append_getElem h, rndF_snoc]
theorem rndF_grow (bs sp : List Fo) : ∀ (k d : Nat), (rndF sp (bs.take k)).1.length ≤ (rndF sp (bs.take (k + d))).1.length
 | k, 0 => Nat.le_refl _
 | k, d + 1 => by
   refine Nat.le_trans (rndF_grow bs sp k d) ?_
   by_cases h : k + d < bs.length
   · rw [← Nat.add_assoc, rndF_take bs sp (k + d) h]; exact addS_len _ _
   · rw [List.take_of_length_le (by omega), List.take_of_length_le (by omega)]; exact Nat.le_refl _
structure GoneI (t : Tk) (i : Nat) : Prop where
 task : taskF t = 0
 room : ∀ j, j < i → j < (spF t j).length ∧ (spF t (j + 1)).length ≤ 20000
theorem begin_few (t : Tk) : (beginF t).1.length ≤ 64 := by
 unfold beginF
 split
 · exact Nat.zero_le _
 · exact Nat.le_trans (beginL_len t _) (claims_few t).2
theorem GoneI.few {t : Tk} {i : Nat} (g : GoneI t i) : (spF t i).length ≤ 20000 := by
 cases i with
 | zero => have := begin_few t; rw [spF]; omega
 | succ i => exact (g.room i (by omega)).2
theorem GoneI.le {t : Tk} {i : Nat} (g : GoneI t i) : i ≤ (spF t i).length := by
 cases i with
 | zero => exact Nat.zero_le _
 | succ i =>
   have h1 := (g.room i (by omega)).1
   have h2 := spF_le t (i := i) (j := i + 1) (by omega)
   omega
theorem spF_next {t : Tk} {i : Nat} (h : i < (spF t i).length) : spF t (i + 1) = (rndF (spF t i) (behindF t (spF t i)[i].kind (spF t i)[i].val).1).1 ∧ plF t i = (rndF (spF t i) (behindF t (spF t i)[i].kind (spF t i)[i].val).1).2 ∧ seF t i = (meetsOf t.formula (letF t.model t.props (spF t i)[i].kind).1 (spF t i)[i].val).1 := by
 rw [spF, plF, seF, List.getElem?_eq_getElem h]
 exact ⟨rfl, rfl, rfl⟩
theorem GoneI.next {t : Tk} {i : Nat} (g : GoneI t i) (h : i < (spF t i).length) (hl : (spF t (i + 1)).length ≤ 20000) : GoneI t (i + 1) :=
 ⟨g.task, fun j hj => by
  by_cases e : j = i
  · subst e; exact ⟨h, hl⟩
  · exact g.room j (by omega)⟩
theorem expF_run (t : Tk) : ∀ (d f i : Nat) (nx : List (List Int)) (st : List Int), d < f → (∀ j, j < d → i + j < (spF t (i + j)).length ∧ (spF t (i + j + 1)).length ≤ 20000) →
 expF t f i (spF t i) nx st = expF t (f - d) (i + d) (spF t (i + d)) (nx ++ (List.range d).map (fun j => plF t (i + j))) (st ++ (List.range d).map (fun j => seF t (i + j)))
 | 0, f, i, nx, st, _, _ => by simp
 | d + 1, f, i, nx, st, hf, h => by
   obtain ⟨f', rfl⟩ : ∃ f', f = f' + 1 := ⟨f - 1, by omega⟩
   have h0 := h 0 (by omega)
   rw [Nat.add_zero] at h0
   obtain ⟨e1, e2, e3⟩ := spF_next h0.1
   rw [expF_at t f' i _ nx st h0.1 (by rw [← e1]; omega), ← e1, ← e2, ← e3]
   rw [expF_run t d f' (i + 1) _ _ (by omega) (fun j hj => by
    have := h (j + 1) (by omega)
    rw [show i + (j + 1) = i + 1 + j by omega] at this
    exact this)]
   rw [show f' + 1 - (d + 1) = f' - d by omega, show i + 1 + d = i + (d + 1) by omega]
   congr 1
   · rw [List.append_assoc]
     congr 1
     rw [List.range_succ_eq_map, List.map_cons, List.map_map]
     simp only [List.singleton_append, Nat.add_zero, List.cons.injEq, true_and]
     exact List.map_congr_left fun j _ => by show _ = plF t (i + (j + 1)); rw [show i + (j + 1) = i + 1 + j by omega]
   · rw [List.append_assoc]
     congr 1
     rw [List.range_succ_eq_map, List.map_cons, List.map_map]
     simp only [List.singleton_append, Nat.add_zero, List.cons.injEq, true_and]
     exact List.map_congr_left fun j _ => by show _ = seF t (i + (j + 1)); rw [show i + (j + 1) = i + 1 + j by omega]
theorem GoneI.run {t : Tk} {i : Nat} (g : GoneI t i) : expF t 20002 0 (beginF t).1 [] [] = expF t (20002 - i) i (spF t i) ((List.range i).map (plF t)) ((List.range i).map (seF t)) := by
 have h1 := g.le
 have h2 := g.few
 have := expF_run t i 20002 0 [] [] (by omega) (fun j hj => by rw [Nat.zero_add]; exact g.room j hj)
 simp only [Nat.zero_add, List.nil_append] at this
 exact this
theorem GoneI.all {t : Tk} {i : Nat} (g : GoneI t i) (h : (spF t i).length ≤ i) : exploreF t = (some ⟨spF t i, (List.range i).map (plF t), (List.range i).map (seF t)⟩, 0) := by
 have h1 := g.le
 have h2 := g.few
 unfold exploreF
 rw [if_neg (fun k => k g.task), g.run]
 obtain ⟨f, hf⟩ : ∃ f, 20002 - i = f + 1 := ⟨20001 - i, by omega⟩
 rw [hf, expF_end t f i _ _ _ h]
theorem GoneI.full {t : Tk} {i : Nat} (g : GoneI t i) (h : i < (spF t i).length) (hl : 20000 < (rndF (spF t i) (behindF t (spF t i)[i].kind (spF t i)[i].val).1).1.length) : exploreF t = (none, 12) := by
 have h2 := g.few
 unfold exploreF
 rw [if_neg (fun k => k g.task), g.run]
 obtain ⟨f, hf⟩ : ∃ f, 20002 - i = f + 1 := ⟨20001 - i, by omega⟩
 rw [hf, expF_full t f i _ _ _ h hl]
noncomputable def exG (t : Tk) : Gr := match (exploreF t).1 with
 | none => ⟨[], 0, [], [], 0⟩
 | some e => ⟨e.spots, (beginF t).1.length, e.next, e.sets, (aheadsOf t.formula t.props.length).1.length⟩
theorem behind_few (t : Tk) (st cl : Int) (hm : modelF t.model = 0) : (behindF t st cl).1.length ≤ 262144 := by
 unfold behindF
 split
 · exact Nat.zero_le _
 · split
   · exact Nat.zero_le _
   · have h1 := behL_len t st cl (nextF t.model st).1
     have h2 := nextF_len hm st
     dsimp only
     omega
end Go.Sp
