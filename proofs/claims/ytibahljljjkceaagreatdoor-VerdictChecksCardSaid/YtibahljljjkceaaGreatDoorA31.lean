/- A bundle of this claim's own texts: E9 G19 Em N16 G2 G24 G27. -/
import Derived.Test.YtibahljljjkceaaGreatDoorA2
import Derived.Test.YtibahljljjkceaaGreatDoorA23
import Derived.Test.YtibahljljjkceaaGreatDoorA28
set_option linter.unusedVariables false
set_option linter.unusedSimpArgs false
set_option maxRecDepth 100000
set_option maxHeartbeats 4000000
namespace Go.Av
open Go Go.Instr

structure TD (P : Program) (KT : TypeId) {α : Type} (kv : α → Value) [DecidableEq α] : Prop where
 find : ∀ {β : Type} (vv : β → Value) (ps : List (α × β)) (a : α) (w : World), ∃ r : Option (Nat × Value), (findKey KT (kv a) (Bl (Af kv vv ps) 0)).run P w = .ok r w ∧ r.map (·.2) = (getM ps a).map vv
 easy : ∀ (e : Bool) (a : α) (w : World), (checkKey e 10000 KT (kv a)).run P w = .ok () w
section
variable {α β : Type} [DecidableEq α] {kv : α → Value}
theorem Kv {P : Program} {KT : TypeId} (he : ∀ a b w, (Op.equal KT (kv a) (kv b)).run P w = .ok (decide (a = b)) w) (vv : β → Value) (a : α) : ∀ (ps : List (α × β)) (i j : Nat) (w : World),
 ∃ r : Option (Nat × Value), (findAsking KT (kv a) (Bl (Af kv vv ps) i) j).run P w = .ok r w ∧ r.map (·.2) = (getM ps a).map vv
 | [], i, j, w => ⟨none, rfl, rfl⟩
 | (b, c) :: ps, i, j, w => by
   by_cases h : a = b
   · subst h
     refine ⟨some (j, vv c), ?_, by simp [getM]⟩
     simp [Af, Bl, findAsking, he]
   · obtain ⟨r, h1, h2⟩ := Kv he vv a ps (i + 1) (j + 1) w
     have hb : ¬ b = a := fun k => h k.symm
     refine ⟨r, ?_, by rw [h2]; simp [getM, hb]⟩
     have e : Bl (Af kv vv ((b, c) :: ps)) i = ⟨kv b, vv c, i⟩ :: Bl (Af kv vv ps) (i + 1) := rfl
     rw [e, findAsking]
     simp [he, h, h1]
theorem P7 {P : Program} {KT : TypeId} {fs : Array Field} (hK : P.underlying KT = some (.struct fs)) (he : ∀ a b w, (Op.equal KT (kv a) (kv b)).run P w = .ok (decide (a = b)) w)
 (hc : ∀ e a w, (checkKey e 10000 KT (kv a)).run P w = .ok () w) : TD P KT kv where
 easy := hc
 find vv ps a w := by
  cases ps with
  | nil => exact ⟨none, by simp [findKey, run_underlying hK, Af, Bl, findNow], rfl⟩
  | cons p ps =>
    obtain ⟨r, h1, h2⟩ := Kv he vv a (p :: ps) 0 0 w
    refine ⟨r, ?_, h2⟩
    have e : findNow (.struct fs) (kv a) (Bl (Af kv vv (p :: ps)) 0) 0 = none := by
     have e1 : Bl (Af kv vv (p :: ps)) 0 = ⟨kv p.1, vv p.2, 0⟩ :: Bl (Af kv vv ps) 1 := rfl
     rw [e1, findNow]
     have e2 : sameNow (.struct fs) (kv a) (kv p.1) = none := by unfold sameNow; split <;> simp_all
     simp only [e2]
    simp [findKey, run_underlying hK, e, h1]
end
section
variable {k : Kx} {Q : Exit → Env → H → Prop} {ρ : Env} {h h' : H} {ops : Array Oper} {l : List Oper} {ty : TypeId} {pos : String} {after : Array Edge}
theorem YF {α β : Type} [DecidableEq α] {kv : α → Value} {vv : β → Value} {T KT ET : TypeId} (K : TD k.P KT kv) {x y u : Operand} {r s : AV} {b : Nat} {ps : List (α × β)} {a : α} {c : β}
 (hx : evO ρ x = some (.val (.map (some b)))) (hy : evO ρ y = some s) (hs : ∀ w I v, AV.rel w I s v → v = kv a) (hv : evO ρ u = some r) (hr : ∀ w I v, AV.rel w I r v → v = vv c) (hT : k.P.underlying T = some (.map KT ET))
 (hu : Upd (.raw b (BE (Af kv vv ps))) (.raw b (BE (Af kv vv (ps ++ [(a, c)])))) h h') (hno : getM ps a = none)
 (hj : JL k ops l Q ρ h') : JL k ops (⟨none, .mapUpdate T x y u, ty, pos, after, none⟩ :: l) Q ρ h := by
 obtain ⟨h1, h2, rfl, rfl⟩ := hu.split
 refine Fv rfl rfl fun I ac w k1 k2 => ?_
 have e1 := AP (k2.ev x) (AF hx)
 have e2 := hs _ _ _ (BY (k2.ev y) (AF hy))
 have e3 := hr _ _ _ (BY (k2.ev u) (AF hv))
 have hb : w.heap[b]? = some (BE (Af kv vv ps)) := k1.ent (.raw b (BE (Af kv vv ps))) (by simp)
 obtain ⟨q, hfind, hq⟩ := K.find vv ps a w
 obtain rfl : q = none := by
  rw [hno] at hq
  cases q with
  | none => rfl
  | some _ => cases hq
 have hnew : Obj.map (Bl (Af kv vv ps) 0 ++ [(⟨kv a, vv c, (Af kv vv ps).length⟩ : MapEntry)]).toArray ((Af kv vv ps).length + 1) = BE (Af kv vv (ps ++ [(a, c)])) := by
  have e : Af kv vv (ps ++ [(a, c)]) = Af kv vv ps ++ [(kv a, vv c)] := by simp [Af]
  unfold BE
  rw [e, Er]
  simp [Bl]
 obtain ⟨g1, g2⟩ := k1.write (w' := { w with heap := w.heap.setIfInBounds b (BE (Af kv vv (ps ++ [(a, c)]))) }) (e' := .raw b (BE (Af kv vv (ps ++ [(a, c)])))) (b := b) rfl rfl rfl rfl rfl (by simp)
  (fun x hx => by simp [Array.getElem?_setIfInBounds, Ne.symm hx]) (by
   have hlt := (Array.getElem?_eq_some_iff.1 hb).1
   show _ = _
   simp [Array.getElem?_setIfInBounds, hlt])
 refine ⟨{ w with heap := w.heap.setIfInBounds b (BE (Af kv vv (ps ++ [(a, c)]))) }, I, h1 ++ .raw b (BE (Af kv vv (ps ++ [(a, c)]))) :: h2, ?_, g1, k2.mono g2 (fun _ h => h), hj⟩
 have hobj : (getObj b).run k.P w = .ok (.map (Bl (Af kv vv ps) 0).toArray (Af kv vv ps).length) w := by simp [getObj, Sem.run, hb, BE]
 have hset := K7 (P := k.P) (w := w) (r := b) (BE (Af kv vv (ps ++ [(a, c)]))) (es := (Bl (Af kv vv ps) 0).toArray) (clock := (Af kv vv ps).length) hb
 simp only [execOp, e1, e2, e3, mapUpdate]
 simp [run_underlying hT, hobj, K.easy false a w, hfind, hnew, hset]
end
section
variable {P : Program} {G : List (Nat × List D)} {ρ : Env} {h : H} {dst : Option Tmp} {ty : TypeId} {pos : String} {after : Array Edge} {g : Option (Nat × Bool)}
theorem QG {α β : Type} [DecidableEq α] {kv : α → Value} {vv : β → Value} {T KT ET : TypeId} (K : TD P KT kv) {x y : Operand} {s : AV} {b : Nat} {ps : List (α × β)} {a : α} {z : Value} {sz eb : Nat}
 (hx : evO ρ x = some (.val (.map (some b)))) (hy : evO ρ y = some s) (hs : ∀ w I v, AV.rel w I s v → v = kv a) (hT : P.underlying T = some (.map KT ET)) (hE : El P ET z sz eb) (hm : Ent.raw b (BE (Af kv vv ps)) ∈ h) :
 Pure P G ⟨dst, .lookup T x y true, ty, pos, after, g⟩ ρ h (.tup [.val (((getM ps a).map vv).getD z), .bool (getM ps a).isSome]) := by
 intro c I n ac w _ hok hs'
 obtain ⟨i, hi, hz, _, _⟩ := hE.get
 have e1 := AP (hs'.ev x) (AF hx)
 have e2 := hs _ _ _ (BY (hs'.ev y) (AF hy))
 have hb : w.heap[b]? = some (BE (Af kv vv ps)) := hok.ent _ hm
 refine ⟨.tuple #[((getM ps a).map vv).getD z, .bool (getM ps a).isSome], ⟨[_, _], rfl, rfl, rfl, trivial⟩, fun w' hw' => ?_⟩
 have hb' : w'.heap[b]? = some (BE (Af kv vv ps)) := (hw'.own b (Dz hm rfl)).trans hb
 have hobj : (getObj b).run P w' = .ok (.map (Bl (Af kv vv ps) 0).toArray (Af kv vv ps).length) w' := by simp [getObj, Sem.run, hb', BE]
 obtain ⟨r, hr1, hr2⟩ := K.find vv ps a w'
 simp only [execOp, e1, e2, lookup]
 cases r with
 | none =>
   have hr3 : (getM ps a).map vv = none := hr2.symm
   have hr4 : getM ps a = none := by simpa using hr3
   simp [run_underlying hT, hobj, K.easy _ a w', hr1, hr4, zeroValue, typeInfo, hi, hz]
 | some r =>
   obtain ⟨j, v⟩ := r
   have hr3 : (getM ps a).map vv = some v := hr2.symm
   obtain ⟨bb, hb1, hb2⟩ := Option.map_eq_some_iff.1 hr3
   simp [run_underlying hT, hobj, K.easy _ a w', hr1, hb1, hb2]
theorem Dc {α : Type} {f : α → List D} {xs : List α} {T E : TypeId} {x : Operand} {q : Sl} {j sz eb : Nat} {z : Value} (hT : BR P T = some true) (hE : El P T z sz eb) (hx : evO ρ x = some (.val (.pointer (some (q.at (j * sz)))))) (hm : AM q.v E sz f xs ∈ h) (hsz : ∀ a, (f a).length = sz) (hj : j < xs.length) :
 Pure P G ⟨dst, .load T x, ty, pos, after, g⟩ ρ h (.agg ((f xs[j]).map D.av)) := by
 intro cx I m a w _ hok hs
 obtain ⟨i, hi, _, rfl, _⟩ := hE.get
 obtain ⟨gb, cap, cur, rfl, hg, hnc, hcm, hcs, hrel⟩ := Ent.row_form (hok.ent _ hm) (by omega)
 have e1 : a.eval x = .pointer (some ⟨gb, j * i.size, none⟩) := AP (hs.ev x) (AF hx)
 have hle : (j + 1) * i.size ≤ xs.length * i.size := Nat.mul_le_mul_right _ hj
 rw [Nat.add_mul, Nat.one_mul] at hle
 have hcl : xs.length * i.size ≤ cur.toList.length := by
  have e : cur.toList.length = cap * i.size := hcs
  rw [e]; exact Nat.mul_le_mul_right _ hnc
 have hfl : ∀ l : List α, ((l.map f).flatten).length = l.length * i.size := fun l => by
  rw [Bx _ fun r hr => by obtain ⟨b, _, rfl⟩ := List.mem_map.1 hr; exact hsz b, List.length_map]
 have hsplit : (xs.map f).flatten = ((xs.take j).map f).flatten ++ (f xs[j] ++ ((xs.drop (j + 1)).map f).flatten) := by
  have e : xs = xs.take j ++ xs[j] :: xs.drop (j + 1) := by rw [← List.drop_eq_getElem_cons hj, List.take_append_drop]
  have e2 : ((xs.take j ++ xs[j] :: xs.drop (j + 1)).map f).flatten = (xs.map f).flatten := by rw [← e]
  rw [List.map_append, List.map_cons, List.flatten_append, List.flatten_cons] at e2
  exact e2.symm
 have htl : ((xs.take j).map f).flatten.length = j * i.size := by rw [hfl, List.length_take, Nat.min_eq_left (by omega)]
 have hl1 : ((((xs.map f).flatten.map D.av).drop (j * i.size)).take i.size) = (f xs[j]).map D.av := by
  rw [hsplit, List.map_append, List.map_append, List.drop_left' (by rw [List.length_map, htl]), List.take_left' (by rw [List.length_map, hsz])]
 have hr1 : ((cur.toList.take (xs.length * i.size)).drop (j * i.size)).take i.size = (cur.toList.drop (j * i.size)).take i.size := by
  rw [List.drop_take, List.take_take, Nat.min_eq_left (by omega)]
 have hrels := DK i.size (FB (j * i.size) hrel)
 rw [hl1, hr1] at hrels
 refine ⟨.agg ((cur.toList.drop (j * i.size)).take i.size).toArray, ⟨_, rfl, hrels⟩, fun w' hw' => ?_⟩
 have hheap : w'.heap[gb]? = some (.cells cur E (0, 0)) := (hw'.own gb (Dz hm rfl)).trans hg
 have hload := run_loadCells_list (P := P) w' ⟨gb, j * i.size, none⟩ ((cur.toList.drop (j * i.size)).take i.size) fun u v hv => by
  rw [Addr.add_lit, cell_of_row w' gb (j * i.size + u) cur E (0, 0) hheap]
  rw [List.getElem?_take] at hv
  split at hv
  · rw [List.getElem?_drop] at hv; simpa using hv
  · cases hv
 have hln : ((cur.toList.drop (j * i.size)).take i.size).length = i.size := by
  rw [List.length_take, List.length_drop]; omega
 rw [hln] at hload
 simp [execOp, e1, Instr.loadAt, Instr.sureAddr, loadVar, DL hT, sizeOf, typeInfo, hi, hload]
end
end Go.Av
namespace Go.Sp
open Go Go.Av

instance : DecidableEq Fo := fun a b => decidable_of_iff (a.kind = b.kind ∧ a.val = b.val) ⟨fun h => Fo.ext' h.1 h.2, fun h => by subst h; exact ⟨rfl, rfl⟩⟩
def plc (b : Fo) : List Fo → Nat
 | [] => 0
 | a :: l => if a = b then 0 else plc b l + 1
theorem VL (b : Fo) : ∀ l : List Fo, plc b l ≤ l.length
 | [] => Nat.le_refl _
 | a :: l => by
   have := VL b l
   rw [plc]; split
   · exact Nat.zero_le _
   · simp; omega
theorem Vd {b : Fo} : ∀ {l : List Fo}, b ∈ l ↔ plc b l < l.length
 | [] => by simp [plc]
 | a :: l => by
   rw [List.mem_cons, plc]
   by_cases h : a = b
   · rw [if_pos h]; simp [h]
   · rw [if_neg h, List.length_cons, Vd (l := l)]
     exact ⟨fun k => k.elim (fun e => absurd e.symm h) (fun k => by omega), fun k => .inr (by omega)⟩
theorem Nt {b : Fo} {l : List Fo} (h : b ∉ l) : plc b l = l.length := by
 have h1 := VL b l
 have h2 : ¬ plc b l < l.length := fun k => h (Vd.2 k)
 omega
def Fi (sp : List Fo) (b : Fo) : List Fo := if b ∈ sp then sp else sp ++ [b]
theorem SH {sp : List Fo} {b : Fo} (h : b ∈ sp) : Fi sp b = sp := if_pos h
theorem QB {sp : List Fo} {b : Fo} (h : b ∉ sp) : Fi sp b = sp ++ [b] := if_neg h
theorem PW (sp : List Fo) (b : Fo) : sp.length ≤ (Fi sp b).length := by
 unfold Fi; split
 · exact Nat.le_refl _
 · simp
def Be : List Fo → List Fo → List Fo × List Int
 | sp, [] => (sp, [])
 | sp, b :: bs => ((Be (Fi sp b) bs).1, (plc b sp : Int) :: (Be (Fi sp b) bs).2)
theorem WQ : ∀ (bs sp : List Fo), sp.length ≤ (Be sp bs).1.length
 | [], sp => Nat.le_refl _
 | b :: bs, sp => Nat.le_trans (PW sp b) (WQ bs _)
theorem Ms : ∀ (bs sp : List Fo), (Be sp bs).1.length ≤ sp.length + bs.length
 | [], sp => by simp [Be]
 | b :: bs, sp => by
   have h1 := Ms bs (Fi sp b)
   have h2 : (Fi sp b).length ≤ sp.length + 1 := by unfold Fi; split <;> simp
   rw [Be, List.length_cons]; dsimp only; omega
theorem EV : ∀ (bs sp : List Fo), (Be sp bs).2.length = bs.length
 | [], sp => rfl
 | b :: bs, sp => by rw [Be]; simp [EV bs]
structure Exp where
 spots : List Fo
 next : List (List Int)
 sets : List Int
noncomputable def HH (t : Tk) : Nat → Nat → List Fo → List (List Int) → List Int → Option Exp
 | 0, _, _, _, _ => none
 | f + 1, i, sp, nx, st =>
   match sp[i]? with
   | none => some ⟨sp, nx, st⟩
   | some s =>
     if 20000 < (Be sp (A2 t s.kind s.val).1).1.length then none
     else HH t f (i + 1) (Be sp (A2 t s.kind s.val).1).1 (nx ++ [(Be sp (A2 t s.kind s.val).1).2]) (st ++ [(CI t.formula (EU t.model t.props s.kind).1 s.val).1])
theorem Oe (t : Tk) (f i : Nat) (sp : List Fo) (nx : List (List Int)) (st : List Int) (h : sp.length ≤ i) : HH t (f + 1) i sp nx st = some ⟨sp, nx, st⟩ := by
 rw [HH, List.getElem?_eq_none h]
theorem Mc (t : Tk) (f i : Nat) (sp : List Fo) (nx : List (List Int)) (st : List Int) (h : i < sp.length) (hl : 20000 < (Be sp (A2 t sp[i].kind sp[i].val).1).1.length) : HH t (f + 1) i sp nx st = none := by
 rw [HH, List.getElem?_eq_getElem h]; exact if_pos hl
theorem SO (t : Tk) (f i : Nat) (sp : List Fo) (nx : List (List Int)) (st : List Int) (h : i < sp.length) (hl : ¬ 20000 < (Be sp (A2 t sp[i].kind sp[i].val).1).1.length) : HH t (f + 1) i sp nx st = HH t f (i + 1) (Be sp (A2 t sp[i].kind sp[i].val).1).1 (nx ++ [(Be sp (A2 t sp[i].kind sp[i].val).1).2]) (st ++ [(CI t.formula (EU t.model t.props sp[i].kind).1 sp[i].val).1]) := by
 rw [HH, List.getElem?_eq_getElem h]; exact if_neg hl
noncomputable def Ae (t : Tk) : Option Exp × Int :=
 if BH t ≠ 0 then (none, BH t)
 else match HH t 20002 0 (A7 t).1 [] [] with
  | none => (none, 12)
  | some e => (some e, 0)
theorem QO (t : Tk) (n : Nat) : (C3 t n).Nodup := by
 unfold C3
 refine List.Pairwise.map _ (fun a b h e => h ?_) ((List.nodup_range (n := n)).filter _)
 have := congrArg Fo.val e
 exact Int.ofNat.inj this
def spV (s : Fo) : Value := .agg #[.int .i64 s.kind, .int .i64 s.val]
def Gc (n : Nat) : Value := .int .i64 n
def HY (sp : List Fo) : List (Fo × Nat) := sp.zipIdx
theorem Tx (sp : List Fo) (b : Fo) : HY (sp ++ [b]) = HY sp ++ [(b, sp.length)] := by
 unfold HY; rw [List.zipIdx_append]; simp
theorem Jw (b : Fo) : ∀ (sp : List Fo) (i : Nat), getM (sp.zipIdx i) b = if b ∈ sp then some (plc b sp + i) else none
 | [], i => by simp [getM]
 | a :: sp, i => by
   have ih := Jw b sp (i + 1)
   rw [List.zipIdx_cons]
   by_cases h : a = b
   · subst h
     simp [getM, plc]
   · have hb : ¬ b = a := fun e => h e.symm
     have e : getM ((a, i) :: sp.zipIdx (i + 1)) b = getM (sp.zipIdx (i + 1)) b := by simp [getM, h]
     rw [e, ih, plc, if_neg h]
     by_cases hm : b ∈ sp
     · rw [if_pos hm, if_pos (List.mem_cons_of_mem _ hm)]; congr 1; omega
     · rw [if_neg hm, if_neg (fun k => by rcases List.mem_cons.1 k with k | k; exact hb k; exact hm k)]
theorem Xu {b : Fo} {sp : List Fo} (h : b ∈ sp) : getM (HY sp) b = some (plc b sp) := by
 have := Jw b sp 0
 rw [if_pos h] at this; exact this
theorem O0 {b : Fo} {sp : List Fo} (h : b ∉ sp) : getM (HY sp) b = none := by
 have := Jw b sp 0
 rw [if_neg h] at this; exact this
end Go.Sp
namespace Go.Proofs.YtibahljljjkceaaGreatDoor
open Go Go.Av
theorem TZ : Fld Tryz.prog 123 0 0 := by unfold Fld; kernel_rfl
instance : FdC Tryz.prog 123 0 0 := ⟨TZ⟩
theorem TY : Fld Tryz.prog 123 1 5 := by unfold Fld; kernel_rfl
instance : FdC Tryz.prog 123 1 5 := ⟨TY⟩
theorem Sr : Bls Tryz.prog 123 [.slice none 0 0, .int .i64 0, .slice none 0 0, .slice none 0 0, .int .i64 0, .map none] [(0, 5), (5, 1)] := by unfold Bls; kernel_rfl
instance : Jn Tryz.prog 123 [.slice none 0 0, .int .i64 0, .slice none 0 0, .slice none 0 0, .int .i64 0, .map none] [(0, 5), (5, 1)] := ⟨Sr⟩
open Go Go.Av Go.Sp
theorem Hv : Cal Tryz.prog 57 := Cal.of Tryz.func57 (by kernel_rfl) (by kernel_rfl)
theorem K9 : Cal Tryz.prog 72 := Cal.of Tryz.func72 (by kernel_rfl) (by kernel_rfl)
theorem spK : TD Tryz.prog 82 spV :=
 P7 Tryz.underlying82 (fun a b w => by
  have h := By.2 a.kind a.val b.kind b.val w
  have e : (a.kind == b.kind && a.val == b.val) = decide (a = b) := by
   by_cases k : a = b
   · subst k; simp
   · rw [decide_eq_false k]
     cases hh : (a.kind == b.kind && a.val == b.val) with
     | false => rfl
     | true => simp only [Bool.and_eq_true, beq_iff_eq] at hh; exact absurd (Fo.ext' hh.1 hh.2) k
  rw [e] at h
  exact h) fun e a w => by cases e <;> kernel_rfl
theorem Ib (b : Fo) (w : World) (I : Nat → Prop) (v : Value) (h : AV.rel w I (.agg [.int b.kind, .int b.val]) v) : v = spV b := by
 obtain ⟨vs, e, r⟩ := h
 match vs, r with
 | [p, q], ⟨h1, h2, _⟩ => cases h1; cases h2; exact e
theorem NF {P : Program} {G : List (Nat × List D)} {ρ : Env} {h : H} {dst : Option Tmp} {ty : TypeId} {pos : String} {after : Array Edge} {g : Option (Nat × Bool)} {α β : Type} [DecidableEq α] {kv : α → Value} {vv : β → Value} {T KT ET : TypeId} (K : TD P KT kv) {x y : Operand} {s : AV} {b : Nat} {ps : List (α × β)} {a : α} {z : Value} {sz eb : Nat} {c : β}
 (hx : evO ρ x = some (.val (.map (some b)))) (hy : evO ρ y = some s) (hs : ∀ w I v, AV.rel w I s v → v = kv a) (hT : P.underlying T = some (.map KT ET)) (hE : El P ET z sz eb) (hm : Ent.raw b (BE (Af kv vv ps)) ∈ h) (hg : getM ps a = some c) :
 Pure P G ⟨dst, .lookup T x y true, ty, pos, after, g⟩ ρ h (.tup [.val (vv c), .bool true]) := by
 have := QG (vv := vv) (dst := dst) (ty := ty) (pos := pos) (after := after) (g := g) (G := G) K hx hy hs hT hE hm
 rwa [hg] at this
theorem H2 {P : Program} {G : List (Nat × List D)} {ρ : Env} {h : H} {dst : Option Tmp} {ty : TypeId} {pos : String} {after : Array Edge} {g : Option (Nat × Bool)} {α β : Type} [DecidableEq α] {kv : α → Value} {vv : β → Value} {T KT ET : TypeId} (K : TD P KT kv) {x y : Operand} {s : AV} {b : Nat} {ps : List (α × β)} {a : α} {z : Value} {sz eb : Nat}
 (hx : evO ρ x = some (.val (.map (some b)))) (hy : evO ρ y = some s) (hs : ∀ w I v, AV.rel w I s v → v = kv a) (hT : P.underlying T = some (.map KT ET)) (hE : El P ET z sz eb) (hm : Ent.raw b (BE (Af kv vv ps)) ∈ h) (hg : getM ps a = none) :
 Pure P G ⟨dst, .lookup T x y true, ty, pos, after, g⟩ ρ h (.tup [.val z, .bool false]) := by
 have := QG (vv := vv) (dst := dst) (ty := ty) (pos := pos) (after := after) (g := g) (G := G) K hx hy hs hT hE hm
 rwa [hg] at this
theorem Tz (ba bm : Nat) (q : Sl) (init many : Int) (a2 a3 : AV) (sp : List Fo) (b : Fo) (hb : b ∈ sp) :
 AC Tryz.prog GP 57 [.val (.pointer (some ⟨ba, 0, none⟩)), .agg [.int b.kind, .int b.val]] [.cells ba 123 [.val q.v, .int init, a2, a3, .int many, .val (.map (some bm))], AM q.v 82 2 Fo.cells sp, .raw bm (BE (Af spV Gc (HY sp)))] fun e h => ∃ _ : Unit, e = .ret (.tup [.int (plc b sp), .bool true]) ∧ h = [.cells ba 123 [.val q.v, .int init, a2, a3, .int many, .val (.map (some bm))], AM q.v 82 2 Fo.cells sp, .raw bm (BE (Af spV Gc (HY sp)))] := by
 have hg := Xu hb
 refine AN (ts := [4, 5]) Tryz.f57.ntmps Tryz.func57 rfl rfl rfl (by simp [Tryz.ntmps57]) fun W I => ?_
 repeat' (first
  | ((with_reducible apply jqp); (focus ((with_reducible apply (NF (vv := Gc) (a := b) spK)); (focus rfl); (focus rfl); (focus exact Ib b); (focus rfl); (focus (with_reducible exact ElC.h)); (focus exact Az); (focus assumption))); (focus rfl))
  | ((with_reducible apply jp); (focus ((with_reducible apply (NF (vv := Gc) (a := b) spK)); (focus rfl); (focus rfl); (focus exact Ib b); (focus rfl); (focus (with_reducible exact ElC.h)); (focus exact Az); (focus assumption))); (focus rfl))
  | exact True.intro | refine AR ?_ | refine two ?_ ?_
  | (refine imp fun hc => ?_) <;> try exact cx hc
  | refine all fun v_ => ?_)
 refine AH (VS.take (hc := [.cells ba 123 [.val q.v, .int init, a2, a3, .int many, .val (.map (some bm))], AM q.v 82 2 Fo.cells sp, .raw bm (BE (Af spV Gc (HY sp)))]) (by exact AI) (Env.le_refl _)) ?_
 ((with_reducible apply rq2); rfl; rfl; rfl)
 exact ⟨(), rfl, rfl⟩
theorem Mh (ba bm : Nat) (q : Sl) (init many : Int) (a2 a3 : AV) (sp : List Fo) (b : Fo) (hb : b ∉ sp) (hl : sp.length < 20000) :
 AC Tryz.prog GP 57 [.val (.pointer (some ⟨ba, 0, none⟩)), .agg [.int b.kind, .int b.val]] [.cells ba 123 [.val q.v, .int init, a2, a3, .int many, .val (.map (some bm))], AM q.v 82 2 Fo.cells sp, .raw bm (BE (Af spV Gc (HY sp)))] fun e h => ∃ p : Sl, e = .ret (.tup [.int (plc b sp), .bool true]) ∧ h = [.cells ba 123 [.val p.v, .int init, a2, a3, .int many, .val (.map (some bm))], AM p.v 82 2 Fo.cells (sp ++ [b]), .raw bm (BE (Af spV Gc (HY (sp ++ [b]))))] := by
 have hg := O0 hb
 refine AN (ts := [4, 5]) Tryz.f57.ntmps Tryz.func57 rfl rfl rfl (by simp [Tryz.ntmps57]) fun W I => ?_
 repeat' (first
  | ((with_reducible apply jqp); (focus ((with_reducible apply (H2 (vv := Gc) (a := b) spK)); (focus rfl); (focus rfl); (focus exact Ib b); (focus rfl); (focus (with_reducible exact ElC.h)); (focus exact Az); (focus assumption))); (focus rfl))
  | ((with_reducible apply jp); (focus ((with_reducible apply (H2 (vv := Gc) (a := b) spK)); (focus rfl); (focus rfl); (focus exact Ib b); (focus rfl); (focus (with_reducible exact ElC.h)); (focus exact Az); (focus assumption))); (focus rfl))
  | ((with_reducible apply (YF spK (vv := Gc) (a := b) (c := sp.length))); (focus rfl); (focus rfl); (focus exact Ib b); (focus rfl); (focus exact fun _ _ _ h => h); (focus rfl); (focus exact CV); (focus assumption))
  | exact True.intro | refine stpB ?_ | refine two ?_ ?_ | refine AB fun c_ => ?_
  | (refine imp fun hc => ?_) <;> try exact cx hc
  | refine all fun v_ => ?_)
 refine ⟨?_⟩
 refine B7 [AM q.v 82 2 Fo.cells sp] mixed rfl (by (repeat ((with_reducible apply Hd.cons); (focus rfl))); exact Hd.nil) (by (repeat (with_reducible apply Ax)); exact len_nil) (by decide +kernel) (by exact Ap) ?_
 repeat' (first
  | ((with_reducible apply (Ea (f := Fo.cells) (u := b))); (focus rfl); (focus rfl); (focus (with_reducible exact ElC.h)); (focus exact Db); (focus rfl); (focus rfl); (focus rfl); (focus rfl); (focus exact BI); (focus exact BI))
  | exact True.intro | refine AD ?_ | refine two ?_ ?_ | refine AB fun c_ => ?_
  | (refine imp fun hc => ?_) <;> try exact cx1 hc
  | refine all fun v_ => ?_)
 have e1 := Nt hb
 rw [Tx, e1]
 refine AH (VS.take (hc := [.cells ba 123 [.val v_.v, .int init, a2, a3, .int many, .val (.map (some bm))], AM v_.v 82 2 Fo.cells (sp ++ [b]), .raw bm (BE (Af spV Gc (HY sp ++ [(b, sp.length)])))]) (by exact AI) (Env.le_refl _)) ?_
 ((with_reducible apply rq2); rfl; rfl; rfl)
 exact ⟨v_, rfl, rfl⟩
theorem Qx (ba bm : Nat) (q : Sl) (init many : Int) (a2 a3 : AV) (sp : List Fo) (b : Fo) (hb : b ∉ sp) (hl : sp.length = 20000) :
 AC Tryz.prog GP 57 [.val (.pointer (some ⟨ba, 0, none⟩)), .agg [.int b.kind, .int b.val]] [.cells ba 123 [.val q.v, .int init, a2, a3, .int many, .val (.map (some bm))], AM q.v 82 2 Fo.cells sp, .raw bm (BE (Af spV Gc (HY sp)))] fun e h => ∃ _ : Unit, e = .ret (.tup [.int 0, .bool false]) ∧ h = [.cells ba 123 [.val q.v, .int init, a2, a3, .int many, .val (.map (some bm))], AM q.v 82 2 Fo.cells sp, .raw bm (BE (Af spV Gc (HY sp)))] := by
 have hg := O0 hb
 refine AN (ts := [4, 5]) Tryz.f57.ntmps Tryz.func57 rfl rfl rfl (by simp [Tryz.ntmps57]) fun W I => ?_
 repeat' (first
  | ((with_reducible apply jqp); (focus ((with_reducible apply (H2 (vv := Gc) (a := b) spK)); (focus rfl); (focus rfl); (focus exact Ib b); (focus rfl); (focus (with_reducible exact ElC.h)); (focus exact Az); (focus assumption))); (focus rfl))
  | ((with_reducible apply jp); (focus ((with_reducible apply (H2 (vv := Gc) (a := b) spK)); (focus rfl); (focus rfl); (focus exact Ib b); (focus rfl); (focus (with_reducible exact ElC.h)); (focus exact Az); (focus assumption))); (focus rfl))
  | exact True.intro | refine AR ?_ | refine two ?_ ?_
  | (refine imp fun hc => ?_) <;> try exact cx hc
  | refine all fun v_ => ?_)
 refine AH (VS.take (hc := [.cells ba 123 [.val q.v, .int init, a2, a3, .int many, .val (.map (some bm))], AM q.v 82 2 Fo.cells sp, .raw bm (BE (Af spV Gc (HY sp)))]) (by exact AI) (Env.le_refl _)) ?_
 ((with_reducible apply rq2); rfl; rfl; rfl)
 exact ⟨(), rfl, rfl⟩
theorem SC {P : Program} {G : List (Nat × List D)} {ρ : Env} {h : H} {dst : Option Tmp} {ty : TypeId} {pos : String} {after : Array Edge} {g : Option (Nat × Bool)} {T T' : TypeId} {x y : Operand} {a b : Fo} (hT : Eq2 P T) (hx : evO ρ x = some (.agg [.int a.kind, .int a.val])) (hy : evO ρ y = some (.agg [.int b.kind, .int b.val])) :
 Pure P G ⟨dst, .binOp .eql T x y T', ty, pos, after, g⟩ ρ h (.bool (decide (a = b))) := by
 have e : decide (a = b) = (a.kind == b.kind && a.val == b.val) := by
  by_cases k : a = b
  · subst k; simp
  · rw [decide_eq_false k]
    cases hh : (a.kind == b.kind && a.val == b.val) with
    | false => rfl
    | true => simp only [Bool.and_eq_true, beq_iff_eq] at hh; exact absurd (Fo.ext' hh.1 hh.2) k
 rw [e]
 exact Am fun w I _ s k => ⟨_, rfl, fun w' => by
  obtain ⟨vs, e1, r1⟩ := BY (k.ev x) (AF hx)
  obtain ⟨us, e2, r2⟩ := BY (k.ev y) (AF hy)
  obtain ⟨rfl⟩ : vs = [.int .i64 a.kind, .int .i64 a.val] := by
   match vs, r1 with
   | [p, q], ⟨h1, h2, _⟩ => cases h1; cases h2; rfl
  obtain ⟨rfl⟩ : us = [.int .i64 b.kind, .int .i64 b.val] := by
   match us, r2 with
   | [p, q], ⟨h1, h2, _⟩ => cases h1; cases h2; rfl
  simp [execOp, e1, e2, run_eqGuard_agg _ _ _ _ _ _ _ hT.1, run_eql_struct, hT.2]⟩
theorem Fu {P : Program} {G : List (Nat × List D)} {ρ : Env} {h : H} {dst : Option Tmp} {ty : TypeId} {pos : String} {after : Array Edge} {g : Option (Nat × Bool)} {T T' : TypeId} {x y : Operand} {a b : Fo} (hT : Eq2 P T) (hx : evO ρ x = some (.agg [.int a.kind, .int a.val])) (hy : evO ρ y = some (.agg [.int b.kind, .int b.val])) (he : a = b) :
 Pure P G ⟨dst, .binOp .eql T x y T', ty, pos, after, g⟩ ρ h (.bool true) := by
 have := SC (G := G) (h := h) (dst := dst) (ty := ty) (pos := pos) (after := after) (g := g) (T' := T') hT hx hy
 rwa [decide_eq_true he] at this
theorem Fw {P : Program} {G : List (Nat × List D)} {ρ : Env} {h : H} {dst : Option Tmp} {ty : TypeId} {pos : String} {after : Array Edge} {g : Option (Nat × Bool)} {T T' : TypeId} {x y : Operand} {a b : Fo} (hT : Eq2 P T) (hx : evO ρ x = some (.agg [.int a.kind, .int a.val])) (hy : evO ρ y = some (.agg [.int b.kind, .int b.val])) (he : ¬ a = b) :
 Pure P G ⟨dst, .binOp .eql T x y T', ty, pos, after, g⟩ ρ h (.bool false) := by
 have := SC (G := G) (h := h) (dst := dst) (ty := ty) (pos := pos) (after := after) (g := g) (T' := T') hT hx hy
 rwa [decide_eq_false he] at this
theorem WB (b : Fo) (sp : List Fo) (i : Nat) (h : i < sp.length) : plc b (sp.drop i) = if sp[i] = b then 0 else plc b (sp.drop (i + 1)) + 1 := by
 rw [List.drop_eq_getElem_cons h, plc]
theorem ZY (G : List (Nat × List D)) (sp : List Fo) (b : Fo) (hl : sp.length ≤ 1000000) : ACr Tryz.prog G 72 [.d (AO sp), .agg [.int b.kind, .int b.val]] (.int (if b ∈ sp then (plc b sp : Int) else -1)) := by
 refine AN (ts := [4]) Tryz.f72.ntmps Tryz.func72 rfl rfl rfl (by simp [Tryz.ntmps72]) fun W I => ?_
 repeat' (first
  | ((with_reducible apply jqp); (focus ((with_reducible apply (Fu By)); (focus rfl); (focus rfl); (focus assumption))); (focus rfl))
  | ((with_reducible apply jqp); (focus ((with_reducible apply (Fw By)); (focus rfl); (focus rfl); (focus assumption))); (focus rfl))
  | ((with_reducible apply jp); (focus ((with_reducible apply (Fu By)); (focus rfl); (focus rfl); (focus assumption))); (focus rfl))
  | ((with_reducible apply jp); (focus ((with_reducible apply (Fw By)); (focus rfl); (focus rfl); (focus assumption))); (focus rfl))
  | exact True.intro | refine AR ?_ | refine two ?_ ?_
  | (refine imp fun hc => ?_) <;> try exact cx hc
  | refine all fun v_ => ?_)
 obtain ⟨bs, rfl⟩ : ∃ x, x = v_ := ⟨v_, rfl⟩
 refine AG (X := Nat) (fun i => [(0, .d (AO sp)), (3, .val (.pointer (some ⟨bs, 0, none⟩))), (5, .int i)]) (fun _ => [.cells bs 82 [.int b.kind, .int b.val]]) (fun i => i ≤ sp.length ∧ plc b sp = i + plc b (sp.drop i) ∧ (b ∈ sp ↔ b ∈ sp.drop i)) (fun i => sp.length - i) 0 ⟨Nat.zero_le _, by simp, by simp⟩ (VS.of_le ?_) ?_
 · exact leD
 rintro i ⟨h1, h2, h3⟩
 by_cases hi : i < sp.length
 · rw [WB b sp i hi] at h2
   by_cases he : sp[i] = b
   · rw [if_pos he] at h2
     have hm : b ∈ sp := by rw [← he]; exact List.getElem_mem hi
     repeat' (first
      | ((with_reducible apply jqp); (focus ((with_reducible apply (Fu By)); (focus rfl); (focus rfl); (focus assumption))); (focus rfl))
      | ((with_reducible apply jqp); (focus ((with_reducible apply (Fw By)); (focus rfl); (focus rfl); (focus assumption))); (focus rfl))
      | ((with_reducible apply jp); (focus ((with_reducible apply (Fu By)); (focus rfl); (focus rfl); (focus assumption))); (focus rfl))
      | ((with_reducible apply jp); (focus ((with_reducible apply (Fw By)); (focus rfl); (focus rfl); (focus assumption))); (focus rfl))
      | exact True.intro | refine AR ?_ | refine two ?_ ?_
      | (refine imp fun hc => ?_) <;> try exact cx hc
      | refine all fun v_ => ?_)
     refine AH (VS.drop (List.nil_sublist _)) ?_
     ((with_reducible apply rq1); rfl; rfl)
     exact AA (by rw [if_pos hm, h2]; rfl)
   · rw [if_neg he] at h2
     have hm : b ∈ sp ↔ b ∈ sp.drop (i + 1) := by
      rw [h3, List.drop_eq_getElem_cons hi, List.mem_cons]
      exact ⟨fun k => k.resolve_left fun e => he e.symm, .inr⟩
     repeat' (first
      | ((with_reducible apply jqp); (focus ((with_reducible apply (Fu By)); (focus rfl); (focus rfl); (focus assumption))); (focus rfl))
      | ((with_reducible apply jqp); (focus ((with_reducible apply (Fw By)); (focus rfl); (focus rfl); (focus assumption))); (focus rfl))
      | ((with_reducible apply jp); (focus ((with_reducible apply (Fu By)); (focus rfl); (focus rfl); (focus assumption))); (focus rfl))
      | ((with_reducible apply jp); (focus ((with_reducible apply (Fw By)); (focus rfl); (focus rfl); (focus assumption))); (focus rfl))
      | exact True.intro | refine AR ?_ | refine two ?_ ?_
      | (refine imp fun hc => ?_) <;> try exact cx hc
      | refine all fun v_ => ?_)
     refine ⟨i + 1, ⟨hi, by omega, hm⟩, by omega, VS.of_le ?_⟩
     exact leD
 have hm : b ∉ sp := by rw [h3, List.drop_of_length_le (by omega)]; exact List.not_mem_nil
 repeat' (first
  | ((with_reducible apply jqp); (focus ((with_reducible apply (Fu By)); (focus rfl); (focus rfl); (focus assumption))); (focus rfl))
  | ((with_reducible apply jqp); (focus ((with_reducible apply (Fw By)); (focus rfl); (focus rfl); (focus assumption))); (focus rfl))
  | ((with_reducible apply jp); (focus ((with_reducible apply (Fu By)); (focus rfl); (focus rfl); (focus assumption))); (focus rfl))
  | ((with_reducible apply jp); (focus ((with_reducible apply (Fw By)); (focus rfl); (focus rfl); (focus assumption))); (focus rfl))
  | exact True.intro | refine AR ?_ | refine two ?_ ?_
  | (refine imp fun hc => ?_) <;> try exact cx hc
  | refine all fun v_ => ?_)
 refine AH (VS.drop (List.nil_sublist _)) ?_
 ((with_reducible apply rq1); rfl; rfl)
 exact AA (by rw [if_neg hm])
end Go.Proofs.YtibahljljjkceaaGreatDoor
namespace Go.Sp
open Go Go.Av

def ni (l : List Nat) (i : Nat) : Nat := (l[i]?).getD 0
theorem B4 (l : List Nat) (i : Nat) (h : i < l.length) : ni l i = l[i] := by simp [ni, List.getElem?_eq_getElem h]
noncomputable def BZ (g : Gn) : List Nat := (List.range g.spots.length).map fun v => (partOf g.nx v).toNat
theorem D0 (g : Gn) : (BZ g).length = g.spots.length := by simp [BZ]
theorem IQ (g : Gn) : (BZ g).map (fun k : Nat => (k : Int)) = FE g := by
 unfold BZ FE
 rw [List.map_map]
 apply List.map_congr_left
 intro v _
 have := Ct (nx := g.nx) v
 simp only [Function.comp_apply]
 omega
theorem Oq (g : Gn) (i : Nat) (h : i < (BZ g).length) : (BZ g)[i] < g.spots.length := by
 have h1 := Ct (nx := g.nx) i
 rw [D0] at h
 simp only [BZ, List.getElem_map, List.getElem_range]
 omega
def FW (g : Gn) (pn : List Nat) (i : Nat) : Prop :=
 ni pn i = i ∧ (∃ u, u < g.spots.length ∧ ni pn u = i ∧ ∃ w ∈ g.nx u, ni pn w = i) ∧ ∀ s, s < g.many → ∃ u, u < g.spots.length ∧ ni pn u = i ∧ (ni g.sets u).testBit s = true
noncomputable instance (g : Gn) (pn : List Nat) (i : Nat) : Decidable (FW g pn i) := Classical.propDecidable _
noncomputable def HX (g : Gn) (pn : List Nat) : List Bool := (List.range g.spots.length).map fun i => decide (FW g pn i)
structure LoI (g : Gn) (pn : List Nat) (i k : Nat) (lo : List Bool) : Prop where
 len : lo.length = g.spots.length
 iff : ∀ v, v < g.spots.length → (bi lo v = true ↔ (∃ u, u < i ∧ ni pn u = v ∧ ∃ w ∈ g.nx u, ni pn w = v) ∨ (ni pn i = v ∧ ∃ w ∈ (g.nx i).take k, ni pn w = v))
section
variable {g : Gn} {pn : List Nat} {i k : Nat} {lo : List Bool}
theorem ZT (n v : Nat) : bi (List.replicate n false) v = false := by
 unfold bi; rw [List.getElem?_replicate]; split <;> rfl
theorem LoI.start (g : Gn) (pn : List Nat) : LoI g pn 0 0 (List.replicate g.spots.length false) where
 len := by simp
 iff v hv := by simp [ZT]
theorem LoI.yes (t : LoI g pn i k lo) (hk : k < (g.nx i).length) (he : ni pn (g.nx i)[k] = ni pn i) (hp : ni pn i < g.spots.length) : LoI g pn i (k + 1) (lo.set (ni pn i) true) where
 len := by simpa using t.len
 iff v hv := by
  rw [Jl _ _ _ _ (by rw [t.len]; exact hp), List.take_succ_eq_append_getElem hk]
  split
  · rename_i e
    subst e
    refine ⟨fun _ => .inr ⟨rfl, _, List.mem_append.2 (.inr (List.mem_singleton.2 rfl)), he⟩, fun _ => rfl⟩
  · rename_i e
    rw [t.iff v hv]
    constructor
    · rintro (h | ⟨h1, w, h2, h3⟩)
      · exact .inl h
      · exact .inr ⟨h1, w, List.mem_append.2 (.inl h2), h3⟩
    · rintro (h | ⟨h1, w, h2, h3⟩)
      · exact .inl h
      · exact absurd h1.symm e
theorem LoI.no (t : LoI g pn i k lo) (hk : k < (g.nx i).length) (he : ¬ ni pn (g.nx i)[k] = ni pn i) : LoI g pn i (k + 1) lo where
 len := t.len
 iff v hv := by
  rw [t.iff v hv, List.take_succ_eq_append_getElem hk]
  constructor
  · rintro (h | ⟨h1, w, h2, h3⟩)
    · exact .inl h
    · exact .inr ⟨h1, w, List.mem_append.2 (.inl h2), h3⟩
  · rintro (h | ⟨h1, w, h2, h3⟩)
    · exact .inl h
    · rcases List.mem_append.1 h2 with h2 | h2
      · exact .inr ⟨h1, w, h2, h3⟩
      · rw [List.mem_singleton.1 h2] at h3
        exact absurd (h3.trans h1.symm) he
theorem LoI.done (t : LoI g pn i (g.nx i).length lo) : LoI g pn (i + 1) 0 lo where
 len := t.len
 iff v hv := by
  rw [t.iff v hv, List.take_length]
  simp only [List.take_zero, List.not_mem_nil, false_and, exists_false, and_false, or_false]
  constructor
  · rintro (⟨u, h1, h2⟩ | ⟨h1, h2⟩)
    · exact ⟨u, by omega, h2⟩
    · exact ⟨i, by omega, h1, h2⟩
  · rintro ⟨u, h1, h2, h3⟩
    by_cases e : u = i
    · subst e; exact .inr ⟨h2, h3⟩
    · exact .inl ⟨u, by omega, h2, h3⟩
def SeI (g : Gn) (pn : List Nat) (i : Nat) (st : List Int) : Prop :=
 st.length = g.spots.length ∧ ∀ v, v < g.spots.length → ∃ x : Nat, gi st v = x ∧ x < 2 ^ g.many ∧ ∀ s, x.testBit s = true ↔ ∃ u, u < i ∧ ni pn u = v ∧ (ni g.sets u).testBit s = true
theorem SeI.start (g : Gn) (pn : List Nat) : SeI g pn 0 (List.replicate g.spots.length 0) := ⟨by simp, fun v hv => ⟨0, by rw [Ge]; rfl, Nat.two_pow_pos _, fun s => by simp⟩⟩
theorem SV {g : Gn} (hok : g.ok) (i : Nat) : ni g.sets i < 2 ^ g.many := by
 by_cases h : i < g.sets.length
 · rw [B4 _ _ h]; exact hok.bits i h
 · simp only [ni, List.getElem?_eq_none (Nat.le_of_not_lt h), Option.getD_none]
   exact Nat.two_pow_pos _
theorem OP {g : Gn} (hok : g.ok) : 1 ≤ 2 ^ g.many ∧ 2 ^ g.many ≤ 64 := by
 have := hok.many
 have : g.many = 0 ∨ g.many = 1 ∨ g.many = 2 ∨ g.many = 3 ∨ g.many = 4 ∨ g.many = 5 ∨ g.many = 6 := by omega
 rcases this with h | h | h | h | h | h | h <;> rw [h] <;> decide
theorem SeI.step {st : List Int} (hok : g.ok) (t : SeI g pn i st) (hp : ni pn i < g.spots.length) : SeI g pn (i + 1) (st.set (ni pn i) (bits .or .i64 (gi st (ni pn i)) (ni g.sets i : Nat))) := ⟨by simpa using t.1, fun v hv => by
 obtain ⟨x, h1, h2, h3⟩ := t.2 v hv
 rw [Bd _ _ _ _ (by rw [t.1]; exact hp)]
 have hlt := SV hok i
 have h64 := OP hok
 split
 · rename_i e
   subst e
   refine ⟨x ||| ni g.sets i, ?_, Nat.or_lt_two_pow h2 hlt, fun s => ?_⟩
   · rw [h1]
     exact (bits_nat .i64 63 (by decide) Ey x (ni g.sets i) (by omega) (by omega)).2
   · rw [Nat.testBit_or, Bool.or_eq_true, h3 s]
     constructor
     · rintro (⟨u, a, b⟩ | h)
       · exact ⟨u, by omega, b⟩
       · exact ⟨i, by omega, rfl, h⟩
     · rintro ⟨u, a, b, c⟩
       by_cases eu : u = i
       · subst eu; exact .inr c
       · exact .inl ⟨u, by omega, b, c⟩
 · rename_i e
   refine ⟨x, h1, h2, fun s => ?_⟩
   rw [h3 s]
   constructor
   · rintro ⟨u, a, b⟩
     exact ⟨u, by omega, b⟩
   · rintro ⟨u, a, b, c⟩
     by_cases eu : u = i
     · subst eu; exact absurd b.symm e
     · exact ⟨u, by omega, b, c⟩⟩
theorem UY {st : List Int} (t : LoI g pn g.spots.length 0 lo) (q : SeI g pn g.spots.length st) {i : Nat} (hi : i < g.spots.length) : FW g pn i ↔ ni pn i = i ∧ bi lo i = true ∧ gi st i = 2 ^ g.many - 1 := by
 obtain ⟨x, h1, h2, h3⟩ := q.2 i hi
 rw [t.iff i hi]
 simp only [List.take_zero, List.not_mem_nil, false_and, exists_false, and_false, or_false]
 unfold FW
 refine and_congr_right fun _ => and_congr_right fun _ => ?_
 have hpos : 1 ≤ 2 ^ g.many := Nat.two_pow_pos _
 constructor
 · intro h
   have e : x = 2 ^ g.many - 1 := by
    apply Nat.eq_of_testBit_eq
    intro s
    rw [Nat.testBit_two_pow_sub_one]
    by_cases hs : s < g.many
    · rw [decide_eq_true hs, h3 s]; exact h s hs
    · rw [decide_eq_false hs]
      exact Nat.testBit_lt_two_pow (Nat.lt_of_lt_of_le h2 (Nat.pow_le_pow_right (by decide) (by omega)))
   rw [h1, e]
   have : ((2 ^ g.many - 1 : Nat) : Int) = ((2 ^ g.many : Nat) : Int) - 1 := by omega
   rw [this]
   simp
 · intro h s hs
   have e : x = 2 ^ g.many - 1 := by
    have e1 : ((2 : Int) ^ g.many) = ((2 ^ g.many : Nat) : Int) := by simp
    rw [e1] at h
    omega
   rw [← h3 s, e, Nat.testBit_two_pow_sub_one, decide_eq_true hs]
end
theorem Ki (x s : Nat) : (((x : Int) / 2 ^ s) % 2 = 1) ↔ x.testBit s = true := by
 rw [Nat.testBit_eq_decide_div_mod_eq, decide_eq_true_iff]
 have e : ((x : Int) / 2 ^ s) % 2 = ((x / 2 ^ s % 2 : Nat) : Int) := by simp
 rw [e]
 omega
def GU (g : Gn) (i : Nat) : Prop := CC g i ∧ FW g (BZ g) i
noncomputable instance (g : Gn) (i : Nat) : Decidable (GU g i) := Classical.propDecidable _
noncomputable def KI (g : Gn) : Int × Int :=
 match (List.range g.spots.length).find? fun i => decide (GU g i) with
 | some i => ((i : Int), 0)
 | none => (0, 11)
noncomputable def CK (g : Gr) : Int × Int := open Classical in if okG g then KI (VN g) else (0, 9)
theorem GH {g : Gn} (h : g.ok) : CK g.gr = KI g := by rw [CK, if_pos (Gn.ok_gr h), NQ h]
theorem NB {g : Gr} (h : ¬ okG g) : CK g = (0, 9) := by rw [CK, if_neg h]
theorem Q9 {n i : Nat} {p : Nat → Bool} (hb : ∀ j, j < i → p j = false) (hi : i < n) (hp : p i = true) : (List.range n).find? p = some i := by
 rw [List.find?_range_eq_some]
 exact ⟨hp, List.mem_range.2 hi, fun j hj => by simp [hb j hj]⟩
theorem TI {n : Nat} {p : Nat → Bool} (hb : ∀ j, j < n → p j = false) : (List.range n).find? p = none := by
 rw [List.find?_eq_none]
 intro x hx
 rw [hb x (List.mem_range.1 hx)]
 decide
theorem Pk {g : Gn} {i : Nat} (hb : ∀ j, j < i → ¬ GU g j) (hi : i < g.spots.length) (hp : GU g i) : KI g = ((i : Int), 0) := by
 rw [KI, Q9 (fun j hj => decide_eq_false (hb j hj)) hi (decide_eq_true hp)]
theorem Lj {g : Gn} (hb : ∀ j, j < g.spots.length → ¬ GU g j) : KI g = (0, 11) := by
 rw [KI, TI fun j hj => decide_eq_false (hb j hj)]
def lpP (g : Gn) (pn : List Nat) (i k j : Nat) : Prop := (∃ u, u < k ∧ ni pn u = i ∧ ∃ w ∈ g.nx u, ni pn w = i) ∨ (ni pn k = i ∧ ∃ w ∈ (g.nx k).take j, ni pn w = i)
theorem Ui (g : Gn) (pn : List Nat) (i : Nat) : ¬ lpP g pn i 0 0 := by simp [lpP]
theorem We {g : Gn} {pn : List Nat} {i k j : Nat} (hj : j < (g.nx k).length) : lpP g pn i k (j + 1) ↔ lpP g pn i k j ∨ (ni pn k = i ∧ ni pn (g.nx k)[j] = i) := by
 unfold lpP
 rw [List.take_succ_eq_append_getElem hj]
 constructor
 · rintro (h | ⟨h1, w, h2, h3⟩)
   · exact .inl (.inl h)
   · rcases List.mem_append.1 h2 with h2 | h2
     · exact .inl (.inr ⟨h1, w, h2, h3⟩)
     · rw [List.mem_singleton.1 h2] at h3
       exact .inr ⟨h1, h3⟩
 · rintro ((h | ⟨h1, w, h2, h3⟩) | ⟨h1, h2⟩)
   · exact .inl h
   · exact .inr ⟨h1, w, List.mem_append.2 (.inl h2), h3⟩
   · exact .inr ⟨h1, _, List.mem_append.2 (.inr (List.mem_singleton.2 rfl)), h2⟩
theorem VR {g : Gn} {pn : List Nat} {i k : Nat} : lpP g pn i k (g.nx k).length ↔ lpP g pn i (k + 1) 0 := by
 unfold lpP
 rw [List.take_length]
 simp only [List.take_zero, List.not_mem_nil, false_and, exists_false, and_false, or_false]
 constructor
 · rintro (⟨u, h1, h2⟩ | ⟨h1, h2⟩)
   · exact ⟨u, by omega, h2⟩
   · exact ⟨k, by omega, h1, h2⟩
 · rintro ⟨u, h1, h2, h3⟩
   by_cases e : u = k
   · subst e; exact .inr ⟨h2, h3⟩
   · exact .inl ⟨u, by omega, h2, h3⟩
theorem Xr {g : Gn} {pn : List Nat} {i : Nat} : lpP g pn i g.spots.length 0 ↔ ∃ u, u < g.spots.length ∧ ni pn u = i ∧ ∃ w ∈ g.nx u, ni pn w = i := by
 unfold lpP
 simp
def meP (g : Gn) (pn : List Nat) (i s k : Nat) : Prop := ∃ u, u < k ∧ ni pn u = i ∧ (ni g.sets u).testBit s = true
theorem VD (g : Gn) (pn : List Nat) (i s : Nat) : ¬ meP g pn i s 0 := by simp [meP]
theorem Wp {g : Gn} {pn : List Nat} {i s k : Nat} : meP g pn i s (k + 1) ↔ meP g pn i s k ∨ (ni pn k = i ∧ (ni g.sets k).testBit s = true) := by
 unfold meP
 constructor
 · rintro ⟨u, h1, h2⟩
   by_cases e : u = k
   · subst e; exact .inr h2
   · exact .inl ⟨u, by omega, h2⟩
 · rintro (⟨u, h1, h2⟩ | h)
   · exact ⟨u, by omega, h2⟩
   · exact ⟨k, by omega, h⟩

theorem Wl {sp : List Fo} {b c : Fo} : c ∈ Fi sp b ↔ c ∈ sp ∨ c = b := by
 unfold Fi
 by_cases h : b ∈ sp
 · rw [if_pos h]; exact ⟨.inl, fun k => k.elim id fun e => e ▸ h⟩
 · rw [if_neg h]; simp
theorem VZ (sp : List Fo) (b : Fo) : ∃ r, Fi sp b = sp ++ r := by
 unfold Fi
 split
 · exact ⟨[], by simp⟩
 · exact ⟨[b], rfl⟩
theorem L4 : ∀ (bs sp : List Fo), ∃ r, (Be sp bs).1 = sp ++ r
 | [], sp => ⟨[], by simp [Be]⟩
 | b :: bs, sp => by
   obtain ⟨r, h⟩ := VZ sp b
   obtain ⟨r', h'⟩ := L4 bs (Fi sp b)
   exact ⟨r ++ r', by rw [Be]; dsimp only; rw [h', h, List.append_assoc]⟩
theorem Om : ∀ (bs sp : List Fo) (c : Fo), c ∈ (Be sp bs).1 ↔ c ∈ sp ∨ c ∈ bs
 | [], sp, c => by simp [Be]
 | b :: bs, sp, c => by
   rw [Be]; dsimp only
   rw [Om bs, Wl, List.mem_cons, or_assoc]
theorem RU {sp : List Fo} (h : sp.Nodup) (b : Fo) : (Fi sp b).Nodup := by
 unfold Fi
 by_cases hb : b ∈ sp
 · rw [if_pos hb]; exact h
 · rw [if_neg hb, List.nodup_append]
   exact ⟨h, by simp, fun x hx y hy e => by rw [List.mem_singleton.1 hy] at e; exact hb (e ▸ hx)⟩
theorem Kk : ∀ (bs : List Fo) {sp : List Fo}, sp.Nodup → (Be sp bs).1.Nodup
 | [], _, h => h
 | b :: bs, _, h => Kk bs (RU h b)
theorem SA {b : Fo} : ∀ {l : List Fo}, b ∈ l → l[plc b l]? = some b
 | [], h => by cases h
 | a :: l, h => by
   rw [plc]
   by_cases e : a = b
   · rw [if_pos e, e]; rfl
   · rw [if_neg e, List.getElem?_cons_succ]
     exact SA ((List.mem_cons.1 h).resolve_left fun k => e k.symm)
theorem Ux (sp : List Fo) (b : Fo) : (Fi sp b)[plc b sp]? = some b := by
 unfold Fi
 by_cases h : b ∈ sp
 · rw [if_pos h]; exact SA h
 · rw [if_neg h, Nt h]; simp
theorem Rz {α : Type} {a b r : List α} (h : b = a ++ r) {i : Nat} {x : α} (hx : a[i]? = some x) : b[i]? = some x := by
 rw [h, List.getElem?_append_left (List.getElem?_eq_some_iff.1 hx).1]; exact hx
theorem QE : ∀ (bs sp : List Fo) (k : Nat) (b : Fo), bs[k]? = some b → ∃ p : Nat, (Be sp bs).2[k]? = some (p : Int) ∧ (Be sp bs).1[p]? = some b
 | [], _, k, b, h => by simp at h
 | c :: bs, sp, 0, b, h => by
   simp at h; subst h
   refine ⟨plc c sp, by simp [Be], ?_⟩
   obtain ⟨r, hr⟩ := L4 bs (Fi sp c)
   exact Rz hr (Ux sp c)
 | c :: bs, sp, k + 1, b, h => by
   obtain ⟨p, h1, h2⟩ := QE bs (Fi sp c) k b (by simpa using h)
   exact ⟨p, by rw [Be]; simpa using h1, h2⟩
noncomputable def spF (t : Tk) : Nat → List Fo
 | 0 => (A7 t).1
 | i + 1 => match (spF t i)[i]? with
   | none => spF t i
   | some s => (Be (spF t i) (A2 t s.kind s.val).1).1
noncomputable def plF (t : Tk) (i : Nat) : List Int := match (spF t i)[i]? with
 | none => []
 | some s => (Be (spF t i) (A2 t s.kind s.val).1).2
noncomputable def seF (t : Tk) (i : Nat) : Int := match (spF t i)[i]? with
 | none => 0
 | some s => (CI t.formula (EU t.model t.props s.kind).1 s.val).1
theorem N4 (t : Tk) (i : Nat) : ∀ d, ∃ r, spF t (i + d) = spF t i ++ r
 | 0 => ⟨[], by simp⟩
 | d + 1 => by
   obtain ⟨r, h⟩ := N4 t i d
   rw [← Nat.add_assoc, spF]
   split
   · exact ⟨r, h⟩
   · obtain ⟨r', h'⟩ := L4 _ (spF t (i + d))
     exact ⟨r ++ r', by rw [h', h, List.append_assoc]⟩
theorem Nd (t : Tk) {i j : Nat} (h : i ≤ j) : (spF t i).length ≤ (spF t j).length := by
 obtain ⟨r, hr⟩ := N4 t i (j - i)
 rw [show i + (j - i) = j by omega] at hr
 rw [hr, List.length_append]; omega
theorem OU (t : Tk) {i j k : Nat} (h : i ≤ j) {s : Fo} (hs : (spF t i)[k]? = some s) : (spF t j)[k]? = some s := by
 obtain ⟨r, hr⟩ := N4 t i (j - i)
 rw [show i + (j - i) = j by omega] at hr
 exact Rz hr hs
theorem Jx (t : Tk) : ∀ i, (spF t i).Nodup
 | 0 => by
   unfold spF A7
   split
   · exact List.nodup_nil
   · exact QO _ _
 | i + 1 => by
   rw [spF]
   split
   · exact Jx t i
   · exact Kk _ (Jx t i)
theorem Kw (t : Tk) : ∀ (f i : Nat) (nx : List (List Int)) (st : List Int) (e : Exp), HH t f i (spF t i) nx st = some e →
 ∃ d, e = ⟨spF t (i + d), nx ++ (List.range d).map (fun j => plF t (i + j)), st ++ (List.range d).map (fun j => seF t (i + j))⟩ ∧ (spF t (i + d)).length ≤ i + d ∧ ∀ j, j < d → i + j < (spF t (i + j)).length ∧ (spF t (i + j + 1)).length ≤ 20000
 | 0, i, nx, st, e, h => by rw [HH] at h; cases h
 | f + 1, i, nx, st, e, h => by
   by_cases hi : i < (spF t i).length
   · by_cases hl : 20000 < (Be (spF t i) (A2 t (spF t i)[i].kind (spF t i)[i].val).1).1.length
     · rw [Mc t f i _ nx st hi hl] at h; cases h
     · rw [SO t f i _ nx st hi hl] at h
       have hg : (spF t i)[i]? = some (spF t i)[i] := List.getElem?_eq_getElem hi
       have e1 : spF t (i + 1) = (Be (spF t i) (A2 t (spF t i)[i].kind (spF t i)[i].val).1).1 := by rw [spF, hg]
       have e2 : plF t i = (Be (spF t i) (A2 t (spF t i)[i].kind (spF t i)[i].val).1).2 := by rw [plF, hg]
       have e3 : seF t i = (CI t.formula (EU t.model t.props (spF t i)[i].kind).1 (spF t i)[i].val).1 := by rw [seF, hg]
       rw [← e1, ← e2, ← e3] at h
       rw [← e1] at hl
       obtain ⟨d, h1, h2, h3⟩ := Kw t f (i + 1) _ _ e h
       refine ⟨d + 1, ?_, by rw [show i + (d + 1) = i + 1 + d by omega]; exact h2, fun j hj => ?_⟩
       · rw [h1, show i + (d + 1) = i + 1 + d by omega]
         congr 1
         · rw [List.append_assoc]
           congr 1
           rw [List.range_succ_eq_map, List.map_cons, List.map_map]
           simp only [List.singleton_append, Nat.add_zero, List.cons.injEq, true_and]
           exact List.map_congr_left fun j _ => by show _ = plF t (i + (j + 1)); rw [show i + (j + 1) = i + 1 + j by omega]
         · rw [List.append_assoc]
           congr 1
           rw [List.range_succ_eq_map, List.map_cons, List.map_map]
           simp only [List.singleton_append, Nat.add_zero, List.cons.injEq, true_and]
           exact List.map_congr_left fun j _ => by show _ = seF t (i + (j + 1)); rw [show i + (j + 1) = i + 1 + j by omega]
       · cases j with
         | zero => exact ⟨hi, by show (spF t (i + 1)).length ≤ _; omega⟩
         | succ j =>
           have := h3 j (by omega)
           rw [show i + (j + 1) = i + 1 + j by omega]
           exact this
   · rw [Oe t f i _ nx st (by omega)] at h
     cases h
     exact ⟨0, by simp, by simpa using hi, fun j hj => absurd hj (Nat.not_lt_zero j)⟩
structure Grown (t : Tk) (e : Exp) : Prop where
 task : BH t = 0
 spots : e.spots = spF t e.spots.length
 next : e.next = (List.range e.spots.length).map (plF t)
 sets : e.sets = (List.range e.spots.length).map (seF t)
 few : e.spots.length ≤ 20000
 room : ∀ j, j < e.spots.length → j < (spF t j).length
theorem UO {t : Tk} {e : Exp} (h : Ae t = (some e, 0)) : Grown t e := by
 unfold Ae at h
 by_cases ht : BH t ≠ 0
 · rw [if_pos ht] at h; simp at h
 rw [if_neg ht] at h
 cases hx : HH t 20002 0 (A7 t).1 [] [] with
 | none => rw [hx] at h; simp at h
 | some e' =>
   rw [hx] at h
   simp only [Prod.mk.injEq, Option.some.injEq, and_true] at h
   subst h
   obtain ⟨d, h1, h2, h3⟩ := Kw t 20002 0 [] [] e' hx
   simp only [Nat.zero_add, List.nil_append] at h1 h2 h3
   have hd : (spF t d).length = d := by
    cases d with
    | zero => omega
    | succ d =>
      have h4 := (h3 d (by omega)).1
      have h5 := Nd t (i := d) (j := d + 1) (by omega)
      omega
   have hs : e'.spots = spF t d := by rw [h1]
   have hl : e'.spots.length = d := by rw [hs, hd]
   refine ⟨Decidable.not_not.1 ht, by rw [hl]; exact hs, by rw [hl, h1], by rw [hl, h1], ?_, fun j hj => (h3 j (by omega)).1⟩
   rw [hl]
   cases d with
   | zero => omega
   | succ d => have := (h3 d (by omega)).2; omega
section
variable {t : Tk} {e : Exp}
theorem Grown.at (g : Grown t e) {j : Nat} (h : j < e.spots.length) : (spF t j)[j]? = some e.spots[j] := by
 have h1 := g.room j h
 have h2 := OU t (Nat.le_of_lt h) (List.getElem?_eq_getElem h1)
 rw [← g.spots, List.getElem?_eq_getElem h] at h2
 rw [h2, List.getElem?_eq_getElem h1]
theorem Grown.step (g : Grown t e) {j : Nat} (h : j < e.spots.length) : spF t (j + 1) = (Be (spF t j) (A2 t e.spots[j].kind e.spots[j].val).1).1 ∧ plF t j = (Be (spF t j) (A2 t e.spots[j].kind e.spots[j].val).1).2 := by
 rw [spF, plF, g.at h]; exact ⟨rfl, rfl⟩
theorem Grown.get (g : Grown t e) {p : Nat} {b : Fo} (h : (spF t e.spots.length)[p]? = some b) : e.spots[p]? = some b := by
 have hs := g.spots
 generalize e.spots.length = n at hs h
 rw [hs]; exact h
theorem Grown.leads (g : Grown t e) {j : Nat} (h : j < e.spots.length) {y : Int} (hy : y ∈ plF t j) : ∃ p : Nat, y = p ∧ ∃ b, e.spots[p]? = some b ∧ b ∈ (A2 t e.spots[j].kind e.spots[j].val).1 := by
 rw [(g.step h).2] at hy
 obtain ⟨k, hk, rfl⟩ := List.getElem_of_mem hy
 have hl := EV (A2 t e.spots[j].kind e.spots[j].val).1 (spF t j)
 have hk' : k < (A2 t e.spots[j].kind e.spots[j].val).1.length := by omega
 obtain ⟨p, h1, h2⟩ := QE (A2 t e.spots[j].kind e.spots[j].val).1 (spF t j) k _ (List.getElem?_eq_getElem hk')
 rw [List.getElem?_eq_getElem hk] at h1
 refine ⟨p, Option.some.inj h1, _, ?_, List.getElem_mem hk'⟩
 rw [← (g.step h).1] at h2
 exact g.get (OU t (by omega) h2)
theorem Grown.first (g : Grown t e) {p : Nat} (h : p < (A7 t).1.length) : e.spots[p]? = some (A7 t).1[p] :=
 g.get (OU t (i := 0) (Nat.zero_le _) (List.getElem?_eq_getElem h))
theorem Grown.init (g : Grown t e) : (A7 t).1.length ≤ e.spots.length := by
 rw [g.spots]; exact Nd t (i := 0) (Nat.zero_le _)
end

theorem Mq (b : Fo) : ∀ (bs sp : List Fo), Be sp (bs ++ [b]) = (Fi (Be sp bs).1 b, (Be sp bs).2 ++ [(plc b (Be sp bs).1 : Int)])
 | [], sp => by simp [Be]
 | c :: bs, sp => by
   rw [List.cons_append, Be, Mq b bs]
   simp [Be]
theorem J4 (bs sp : List Fo) (k : Nat) (h : k < bs.length) : Be sp (bs.take (k + 1)) = (Fi (Be sp (bs.take k)).1 bs[k], (Be sp (bs.take k)).2 ++ [(plc bs[k] (Be sp (bs.take k)).1 : Int)]) := by
 rw [List.take_succ_eq_append_getElem h, Mq]
theorem Mp (bs sp : List Fo) : ∀ (k d : Nat), (Be sp (bs.take k)).1.length ≤ (Be sp (bs.take (k + d))).1.length
 | k, 0 => Nat.le_refl _
 | k, d + 1 => by
   refine Nat.le_trans (Mp bs sp k d) ?_
   by_cases h : k + d < bs.length
   · rw [← Nat.add_assoc, J4 bs sp (k + d) h]; exact PW _ _
   · rw [List.take_of_length_le (by omega), List.take_of_length_le (by omega)]; exact Nat.le_refl _
structure FR (t : Tk) (i : Nat) : Prop where
 task : BH t = 0
 room : ∀ j, j < i → j < (spF t j).length ∧ (spF t (j + 1)).length ≤ 20000
theorem Jp (t : Tk) : (A7 t).1.length ≤ 64 := by
 unfold A7
 split
 · exact Nat.zero_le _
 · exact Nat.le_trans (Gk t _) (DA t).2
theorem FR.few {t : Tk} {i : Nat} (g : FR t i) : (spF t i).length ≤ 20000 := by
 cases i with
 | zero => have := Jp t; rw [spF]; omega
 | succ i => exact (g.room i (by omega)).2
theorem FR.le {t : Tk} {i : Nat} (g : FR t i) : i ≤ (spF t i).length := by
 cases i with
 | zero => exact Nat.zero_le _
 | succ i =>
   have h1 := (g.room i (by omega)).1
   have h2 := Nd t (i := i) (j := i + 1) (by omega)
   omega
theorem Lz {t : Tk} {i : Nat} (h : i < (spF t i).length) : spF t (i + 1) = (Be (spF t i) (A2 t (spF t i)[i].kind (spF t i)[i].val).1).1 ∧ plF t i = (Be (spF t i) (A2 t (spF t i)[i].kind (spF t i)[i].val).1).2 ∧ seF t i = (CI t.formula (EU t.model t.props (spF t i)[i].kind).1 (spF t i)[i].val).1 := by
 rw [spF, plF, seF, List.getElem?_eq_getElem h]
 exact ⟨rfl, rfl, rfl⟩
theorem FR.next {t : Tk} {i : Nat} (g : FR t i) (h : i < (spF t i).length) (hl : (spF t (i + 1)).length ≤ 20000) : FR t (i + 1) :=
 ⟨g.task, fun j hj => by
  by_cases e : j = i
  · subst e; exact ⟨h, hl⟩
  · exact g.room j (by omega)⟩
theorem Pu (t : Tk) : ∀ (d f i : Nat) (nx : List (List Int)) (st : List Int), d < f → (∀ j, j < d → i + j < (spF t (i + j)).length ∧ (spF t (i + j + 1)).length ≤ 20000) →
 HH t f i (spF t i) nx st = HH t (f - d) (i + d) (spF t (i + d)) (nx ++ (List.range d).map (fun j => plF t (i + j))) (st ++ (List.range d).map (fun j => seF t (i + j)))
 | 0, f, i, nx, st, _, _ => by simp
 | d + 1, f, i, nx, st, hf, h => by
   obtain ⟨f', rfl⟩ : ∃ f', f = f' + 1 := ⟨f - 1, by omega⟩
   have h0 := h 0 (by omega)
   rw [Nat.add_zero] at h0
   obtain ⟨e1, e2, e3⟩ := Lz h0.1
   rw [SO t f' i _ nx st h0.1 (by rw [← e1]; omega), ← e1, ← e2, ← e3]
   rw [Pu t d f' (i + 1) _ _ (by omega) (fun j hj => by
    have := h (j + 1) (by omega)
    rw [show i + (j + 1) = i + 1 + j by omega] at this
    exact this)]
   rw [show f' + 1 - (d + 1) = f' - d by omega, show i + 1 + d = i + (d + 1) by omega]
   congr 1
   · rw [List.append_assoc]
     congr 1
     rw [List.range_succ_eq_map, List.map_cons, List.map_map]
     simp only [List.singleton_append, Nat.add_zero, List.cons.injEq, true_and]
     exact List.map_congr_left fun j _ => by show _ = plF t (i + (j + 1)); rw [show i + (j + 1) = i + 1 + j by omega]
   · rw [List.append_assoc]
     congr 1
     rw [List.range_succ_eq_map, List.map_cons, List.map_map]
     simp only [List.singleton_append, Nat.add_zero, List.cons.injEq, true_and]
     exact List.map_congr_left fun j _ => by show _ = seF t (i + (j + 1)); rw [show i + (j + 1) = i + 1 + j by omega]
theorem FR.run {t : Tk} {i : Nat} (g : FR t i) : HH t 20002 0 (A7 t).1 [] [] = HH t (20002 - i) i (spF t i) ((List.range i).map (plF t)) ((List.range i).map (seF t)) := by
 have h1 := g.le
 have h2 := g.few
 have := Pu t i 20002 0 [] [] (by omega) (fun j hj => by rw [Nat.zero_add]; exact g.room j hj)
 simp only [Nat.zero_add, List.nil_append] at this
 exact this
theorem FR.all {t : Tk} {i : Nat} (g : FR t i) (h : (spF t i).length ≤ i) : Ae t = (some ⟨spF t i, (List.range i).map (plF t), (List.range i).map (seF t)⟩, 0) := by
 have h1 := g.le
 have h2 := g.few
 unfold Ae
 rw [if_neg (fun k => k g.task), g.run]
 obtain ⟨f, hf⟩ : ∃ f, 20002 - i = f + 1 := ⟨20001 - i, by omega⟩
 rw [hf, Oe t f i _ _ _ h]
theorem FR.full {t : Tk} {i : Nat} (g : FR t i) (h : i < (spF t i).length) (hl : 20000 < (Be (spF t i) (A2 t (spF t i)[i].kind (spF t i)[i].val).1).1.length) : Ae t = (none, 12) := by
 have h2 := g.few
 unfold Ae
 rw [if_neg (fun k => k g.task), g.run]
 obtain ⟨f, hf⟩ : ∃ f, 20002 - i = f + 1 := ⟨20001 - i, by omega⟩
 rw [hf, Mc t f i _ _ _ h hl]
noncomputable def exG (t : Tk) : Gr := match (Ae t).1 with
 | none => ⟨[], 0, [], [], 0⟩
 | some e => ⟨e.spots, (A7 t).1.length, e.next, e.sets, (AZ t.formula t.props.length).1.length⟩
theorem IX (t : Tk) (st cl : Int) (hm : AU t.model = 0) : (A2 t st cl).1.length ≤ 262144 := by
 unfold A2
 split
 · exact Nat.zero_le _
 · split
   · exact Nat.zero_le _
   · have h1 := Jb t st cl (DV t.model st).1
     have h2 := Jm hm st
     dsimp only
     omega
end Go.Sp
