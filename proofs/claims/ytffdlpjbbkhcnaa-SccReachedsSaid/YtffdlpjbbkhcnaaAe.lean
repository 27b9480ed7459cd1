/-
  PLAIN, NO PROGRAM: the rules for operations that make or write memory (over Ac).
-/
import Derived.Test.YtffdlpjbbkhcnaaAc
import Derived.Maps.AppendAt
import Derived.Laws.OwnMore
namespace Go.Av
open Go

/-- A value's cells. -/
def AV.cl : AV → List AV
  | .agg cs => cs
  | x => [x]
def AV.flat : AV → Bool
  | .val v => v.oneCell'
  | .d _ => true
  | .pd _ => true
  | _ => false
def AV.stor : AV → Bool
  | .agg cs => cs.all AV.flat
  | x => x.flat

theorem flat_rel {w : World} {I : Nat → Prop} {x : AV} {v : Value} (hf : x.flat = true) (h : AV.rel w I x v) : v.oneCell' = true := by
  cases x with
  | val u => cases h; exact hf
  | d x => exact Rel.oneCell h
  | pd cs => obtain ⟨ad, rfl, _⟩ := h; rfl
  | any => cases hf
  | agg cs => cases hf
  | tup cs => cases hf

theorem cells_one {v : Value} (h : v.oneCell' = true) : v.cells = #[v] := by cases v <;> first | rfl | (cases h; done)

theorem cl_rel {w : World} {I : Nat → Prop} {x : AV} {v : Value} (hs : x.stor = true) (h : AV.rel w I x v) : AV.rels w I x.cl v.cells.toList := by
  have one : ∀ {x : AV}, x.flat = true → AV.rel w I x v → x.cl = [x] → AV.rels w I x.cl v.cells.toList := fun hf h e => by
    rw [cells_one (flat_rel hf h), e]; exact ⟨h, trivial⟩
  cases x with
  | agg cs => obtain ⟨vs, rfl, hr⟩ := h; exact hr
  | val u => exact one hs h rfl
  | d y => exact one hs h rfl
  | pd cs => exact one hs h rfl
  | any => cases hs
  | tup cs => cases hs

theorem all_flat {w : World} {I : Nat → Prop} : ∀ {xs : List AV} {vs : List Value}, xs.all AV.flat = true → AV.rels w I xs vs → ∀ v ∈ vs, v.oneCell' = true
  | [], [], _, _, v, hv => by cases hv
  | x :: xs, u :: us, hf, ⟨h1, h2⟩, v, hv => by
    simp only [List.all_cons, Bool.and_eq_true] at hf
    rcases List.mem_cons.1 hv with rfl | hv
    · exact flat_rel hf.1 h1
    · exact all_flat hf.2 h2 v hv

theorem cl_flat {w : World} {I : Nat → Prop} {x : AV} {v : Value} (hs : x.stor = true) (h : AV.rel w I x v) : ∀ u ∈ v.cells.toList, u.oneCell' = true := by
  have hr := cl_rel hs h
  refine all_flat ?_ hr
  cases x <;> first | exact hs | (simpa [AV.stor, AV.cl] using hs)

/-- A new block, and what is then known. -/
theorem Ok.fresh {c : Cx} {I : Nat → Prop} {h : H} {w : World} (k : Ok c I h w) (o : Obj) (e : Ent) (hb : e.blk = some w.heap.size) (he : e.rel (w.alloc o) I) : Ok c I (e :: h) (w.alloc o) where
  ent e' he' := by
    rcases List.mem_cons.1 he' with rfl | he'
    · exact he
    · exact Ent.rel_mono (fun b hb => Go.RowKit.Below.heap_alloc w o b (k.imm b hb).1) (fun _ hb => hb) (fun b hb => Go.RowKit.Below.heap_alloc w o b (Ent.blk_lt (k.ent e' he') hb)) (k.ent e' he')
  nd := by
    have e1 : blks (e :: h) = w.heap.size :: blks h := by simp [blks, hb]
    rw [e1]
    refine List.nodup_cons.2 ⟨fun hm => ?_, k.nd⟩
    obtain ⟨e', he', hb'⟩ := List.mem_filterMap.1 hm
    exact absurd (Ent.blk_lt (k.ent e' he') hb') (Nat.lt_irrefl _)
  imm b hb' := by
    have e1 : blks (e :: h) = w.heap.size :: blks h := by simp [blks, hb]
    have := k.imm b hb'
    refine ⟨by simp; omega, ?_⟩
    rw [e1]
    intro hm
    rcases List.mem_cons.1 hm with rfl | hm
    · exact absurd this.1 (Nat.lt_irrefl _)
    · exact this.2 hm
  new b hb' := by
    have e1 : blks (e :: h) = w.heap.size :: blks h := by simp [blks, hb]
    rw [e1] at hb'
    rcases List.mem_cons.1 hb' with rfl | hm
    · exact .inr k.size
    · exact k.new b hm
  inew := k.inew
  sup := k.sup
  os := k.os
  tape := k.tape
  output := k.output
  size := Nat.le_trans k.size (by simp)
  keep b hb' hE := (Go.RowKit.Below.heap_alloc w o b (Nat.lt_of_lt_of_le hb' k.size)).trans (k.keep b hb' hE)
  glob q hq := (k.glob q hq).mono (fun b hb => Go.RowKit.Below.heap_alloc w o b (k.imm b hb).1) fun _ hb => hb

theorem SF.fresh {c : Cx} {I : Nat → Prop} {h : H} {w : World} {n : Nat} {ρ : Env} {a : Act} (k : Ok c I h w) (f : SF n w I ρ a) (o : Obj) : SF n (w.alloc o) I ρ a :=
  f.mono (fun b hb => Go.RowKit.Below.heap_alloc w o b (k.imm b hb).1) fun _ hb => hb

/-- A block that others may read from now on. -/
theorem Ok.release {c : Cx} {I : Nat → Prop} {h1 h2 : H} {e : Ent} {w : World} {b : Nat} (k : Ok c I (h1 ++ e :: h2) w) (hb : e.blk = some b) : Ok c (fun x => I x ∨ x = b) (h1 ++ h2) w := by
  have hsub : List.Sublist (h1 ++ h2) (h1 ++ e :: h2) := (List.sublist_cons_self e h2).append_left h1
  have hblk : blks (h1 ++ e :: h2) = blks h1 ++ b :: blks h2 := by simp [blks, hb]
  have hblt : b < w.heap.size := Ent.blk_lt (k.ent e (by simp)) hb
  have hnd := k.nd
  rw [hblk] at hnd
  have hbn : b ∉ blks (h1 ++ h2) := by
    rw [blks_append]
    intro hm
    have h3 := List.nodup_append.1 hnd
    rcases List.mem_append.1 hm with hm | hm
    · exact h3.2.2 b hm b (by simp) rfl
    · exact (List.nodup_cons.1 h3.2.1).1 hm
  exact
  { ent := fun e' he' => Ent.rel_mono (fun _ _ => rfl) (fun _ h => .inl h) (fun _ _ => rfl) (k.ent e' (hsub.subset he'))
    nd := k.nd.sublist (blks_sublist hsub)
    imm := fun x hx => by
      rcases hx with hx | rfl
      · exact ⟨(k.imm x hx).1, fun hm => (k.imm x hx).2 ((blks_sublist hsub).subset hm)⟩
      · exact ⟨hblt, hbn⟩
    new := fun x hx => k.new x ((blks_sublist hsub).subset hx)
    inew := fun x hx => by
      rcases hx with hx | rfl
      · exact k.inew x hx
      · exact .inr (k.new x (by rw [hblk]; simp))
    sup := fun x hx => .inl (k.sup x hx)
    os := k.os, tape := k.tape, output := k.output, size := k.size, keep := k.keep
    glob := fun q hq => (k.glob q hq).mono (fun _ _ => rfl) fun _ h => .inl h }

theorem SF.wider {n : Nat} {w : World} {I I' : Nat → Prop} {ρ : Env} {a : Act} (f : SF n w I ρ a) (hI : ∀ b, I b → I' b) : SF n w I' ρ a := f.mono (fun _ _ => rfl) hI

section
variable {k : Kx} {Q : Exit → Env → H → Prop} {ρ ρ' : Env} {h h' : H} {ops : Array Oper} {l : List Oper} {dst : Option Tmp} {ty : TypeId} {pos : String} {after : Array Edge} {g : Option (Nat × Bool)}

/-- An operation that leaves this. -/
theorem JL_eff {o : Oper} (hg : o.guard = none) (hd : ∀ t, o.dst = some t → t < k.n)
    (he : ∀ I a w, Ok k.c I h w → SF k.n w I ρ a → ∃ v w' I' r h', (execOp a.eval o).run k.P w = .ok (.value v) w' ∧ Ok k.c I' h' w' ∧ SF k.n w' I' ρ a ∧ AV.rel w' I' r v ∧ JL k ops l Q (put ρ o.dst r) h') : JL k ops (o :: l) Q ρ h := by
  intro I a w h1 h2 h3
  obtain ⟨v, w', I', r, h', e1, e2, e3, e4, e5⟩ := he I a w h1 h2
  refine wpList_plain hg fun K hK => ?_
  unfold Oper.wp
  rw [e1]
  exact hK _ _ (e5 I' _ w' e2 (e3.put hd e4) (by rw [Act.defers_put]; exact h3))

theorem JL_eff_skip {o : Oper} (hg : o.guard = none) (hd : o.dst = none)
    (he : ∀ I a w, Ok k.c I h w → SF k.n w I ρ a → ∃ w' I' h', (execOp a.eval o).run k.P w = .ok .skip w' ∧ Ok k.c I' h' w' ∧ SF k.n w' I' ρ a ∧ JL k ops l Q ρ h') : JL k ops (o :: l) Q ρ h := by
  intro I a w h1 h2 h3
  obtain ⟨w', I', h', e1, e2, e3, e5⟩ := he I a w h1 h2
  refine wpList_plain hg fun K hK => ?_
  unfold Oper.wp
  rw [e1]
  simp only [Oper.upon, hd, Act.put]
  exact hK _ _ (e5 I' _ w' e2 e3 h3)

theorem rels_vals (w : World) (I : Nat → Prop) : ∀ vs : List Value, AV.rels w I (vs.map AV.val) vs
  | [] => trivial
  | _ :: vs => ⟨rfl, rels_vals w I vs⟩

theorem JL_alloc {T : TypeId} {z : Value} {sz eb : Nat} (hz : El k.P T z sz eb) (hd : ∀ t, dst = some t → t < k.n)
    (hj : ∀ b, JL k ops l Q (put ρ dst (.val (.pointer (some ⟨b, 0, none⟩)))) (.cells b T (z.cells.toList.map AV.val) :: h)) : JL k ops (⟨dst, .alloc T, ty, pos, after, none⟩ :: l) Q ρ h := by
  obtain ⟨i, hi, hz0, _, _⟩ := hz.get
  refine JL_eff rfl hd fun I a w h1 h2 => ⟨.pointer (some ⟨w.heap.size, 0, none⟩), w.alloc (.cells z.cells T), I, .val (.pointer (some ⟨w.heap.size, 0, none⟩)), _, ?_, h1.fresh _ (.cells w.heap.size T (z.cells.toList.map AV.val)) rfl ?_, h2.fresh h1 _, rfl, hj w.heap.size⟩
  · simp [execOp, Instr.alloc, zeroValue, typeInfo, hi, hz0, newVar, newRow]
  · exact ⟨z.cells, heap_alloc_new w _, rels_vals _ _ _⟩

theorem JL_box {T : TypeId} {x : Operand} {r : AV} (hx : ev ρ x = r) (hs : r.stor = true) (hd : ∀ t, dst = some t → t < k.n)
    (hj : ∀ b, JL k ops l Q (put ρ dst (.val (.pointer (some ⟨b, 0, none⟩)))) (.cells b T r.cl :: h)) : JL k ops (⟨dst, .box T x, ty, pos, after, none⟩ :: l) Q ρ h := by
  refine JL_eff rfl hd fun I a w h1 h2 => ?_
  have hr := rel_as (h2.ev x) hx
  have hr' : AV.rel (w.alloc (.cells (a.eval x).cells T)) I r (a.eval x) := AV.rel_mono (fun b hb => Go.RowKit.Below.heap_alloc w _ b (h1.imm b hb).1) (fun _ h => h) hr
  refine ⟨.pointer (some ⟨w.heap.size, 0, none⟩), w.alloc (.cells (a.eval x).cells T), I, .val (.pointer (some ⟨w.heap.size, 0, none⟩)), _, ?_, h1.fresh _ (.cells w.heap.size T r.cl) rfl ?_, h2.fresh h1 _, rfl, hj w.heap.size⟩
  · simp [execOp, Instr.box, newVar, newRow]
  · exact ⟨(a.eval x).cells, heap_alloc_new w _, cl_rel hs hr'⟩

/-- make([]T, n): a block that is known whole. -/
theorem JL_make {T E : TypeId} {x : Operand} {n : Nat} {z : Value} {eb : Nat} (hT : k.P.underlying T = some (.slice E)) (hz : El k.P E z 1 eb) (hz1 : z.oneCell' = true) (hx : ev ρ x = .int n) (hb : eb * n ≤ 281474976710656) (hm : n ≤ 9223372036854775807) (hd : ∀ t, dst = some t → t < k.n)
    (hj : ∀ b, JL k ops l Q (put ρ dst (.val (.slice (some ⟨b, 0, none⟩) n n))) (.cells b E (List.replicate n (.val z)) :: h)) : JL k ops (⟨dst, .makeSlice T x x, ty, pos, after, none⟩ :: l) Q ρ h := by
  obtain ⟨i, hi, hz0, hz2, hz3⟩ := hz.get
  refine JL_eff rfl hd fun I a w h1 h2 => ?_
  have e1 := rel_val (h2.ev x) hx
  have hbi : (i.bytes : Int) * (n : Int) ≤ 281474976710656 := by
    rw [hz3]
    have h : ((eb * n : Nat) : Int) ≤ 281474976710656 := by omega
    rwa [Int.natCast_mul] at h
  have hrun := run_make (P := k.P) w T E i z hT hi hz0 .i64 .i64 (n : Int) (n : Int) (by omega) (Int.le_refl _) hbi (by omega)
  simp only [Int.toNat_natCast, hz2, Nat.mul_one] at hrun
  have hmc : (madeCells z.cells n).toList = List.replicate n z := by
    rw [cells_one hz1]
    simp only [madeCells]
    apply List.ext_getElem
    · simp
    · intro j h1 h2
      simp [Nat.mod_one]
  refine ⟨.slice (some ⟨w.heap.size, 0, none⟩) n n, w.alloc (.cells (madeCells z.cells n) E), I, .val (.slice (some ⟨w.heap.size, 0, none⟩) n n), _, ?_, h1.fresh _ (.cells w.heap.size E (List.replicate n (.val z))) rfl ?_, h2.fresh h1 _, rfl, hj w.heap.size⟩
  · simp [execOp, e1, hrun]
  · refine ⟨_, heap_alloc_new w _, ?_⟩
    rw [hmc, ← List.map_replicate]
    exact rels_vals _ _ _

/-! ### Blocks that the call writes on -/

/-- One entry is told anew: its block was written, all else stands. -/
theorem Ok.write {c : Cx} {I : Nat → Prop} {h1 h2 : H} {e e' : Ent} {w w' : World} {b : Nat} (k : Ok c I (h1 ++ e :: h2) w) (hb : e.blk = some b) (hb' : e'.blk = some b) (hos : w'.os = w.os) (htp : w'.tape = w.tape) (hout : w'.output = w.output) (hsz : w'.heap.size = w.heap.size)
    (hkeep : ∀ x, x ≠ b → w'.heap[x]? = w.heap[x]?) (he : e'.rel w' I) : Ok c I (h1 ++ e' :: h2) w' ∧ ∀ x, I x → w'.heap[x]? = w.heap[x]? := by
  have hblk : blks (h1 ++ e :: h2) = blks h1 ++ b :: blks h2 := by simp [blks, hb]
  have hblk' : blks (h1 ++ e' :: h2) = blks h1 ++ b :: blks h2 := by simp [blks, hb']
  have hbs : b ∈ blks (h1 ++ e :: h2) := by rw [hblk]; simp
  have hI : ∀ x, I x → w'.heap[x]? = w.heap[x]? := fun x hx => hkeep x fun e0 => by subst e0; exact (k.imm x hx).2 hbs
  have hnd := k.nd
  rw [hblk] at hnd
  have hn3 := List.nodup_append.1 hnd
  refine ⟨?_, hI⟩
  exact
  { ent := fun e0 he0 => by
      rcases List.mem_append.1 he0 with h0 | h0
      · refine Ent.rel_mono hI (fun _ h => h) (fun x hx => hkeep x fun e1 => ?_) (k.ent e0 (List.mem_append.2 (.inl h0)))
        subst e1
        exact hn3.2.2 x (List.mem_filterMap.2 ⟨e0, h0, hx⟩) x (by simp) rfl
      · rcases List.mem_cons.1 h0 with rfl | h0
        · exact he
        · refine Ent.rel_mono hI (fun _ h => h) (fun x hx => hkeep x fun e1 => ?_) (k.ent e0 (List.mem_append.2 (.inr (List.mem_cons_of_mem _ h0))))
          subst e1
          exact (List.nodup_cons.1 hn3.2.1).1 (List.mem_filterMap.2 ⟨e0, h0, hx⟩)
    nd := by rw [hblk']; exact hnd
    imm := fun x hx => by
      have := k.imm x hx
      rw [hblk] at this
      rw [hblk', hsz]
      exact this
    new := fun x hx => k.new x (by rw [hblk]; rw [hblk'] at hx; exact hx)
    inew := k.inew
    sup := k.sup
    os := hos.trans k.os
    tape := htp.trans k.tape
    output := hout.trans k.output
    size := by rw [hsz]; exact k.size
    keep := fun x hx hE => by
      refine (hkeep x fun e0 => ?_).trans (k.keep x hx hE)
      subst e0
      rcases k.new x hbs with h | h
      · exact hE h
      · exact absurd hx (Nat.not_lt.2 h)
    glob := fun q hq => (k.glob q hq).mono hI fun _ h => h }

theorem setRow_other (w : World) (g x : Nat) (cs : Array Value) (hx : x ≠ g) : (w.setRow g cs).heap[x]? = w.heap[x]? := by
  simp only [World.setRow, Array.getElem?_modify]
  rw [if_neg (fun e => hx e.symm)]

theorem rels_take {w : World} {I : Nat → Prop} : ∀ {xs : List AV} {vs : List Value} (n : Nat), AV.rels w I xs vs → AV.rels w I (xs.take n) (vs.take n)
  | _, _, 0, _ => by simp [AV.rels]
  | [], [], _ + 1, _ => trivial
  | _ :: _, _ :: _, n + 1, ⟨h1, h2⟩ => ⟨h1, rels_take n h2⟩
theorem rels_drop {w : World} {I : Nat → Prop} : ∀ {xs : List AV} {vs : List Value} (n : Nat), AV.rels w I xs vs → AV.rels w I (xs.drop n) (vs.drop n)
  | _, _, 0, h => h
  | [], [], _ + 1, _ => trivial
  | _ :: _, _ :: _, n + 1, ⟨_, h2⟩ => rels_drop n h2

/-- What lies in a block from a place on is written anew. -/
def setAt (vs : List AV) (off : Nat) (cs : List AV) : List AV := vs.take off ++ cs ++ vs.drop (off + cs.length)

theorem JL_store {T T0 : TypeId} {x y : Operand} {b off : Nat} {r : AV} {vs : List AV} {h1 h2 : H} {z : Value} {sz eb : Nat} (hx : ev ρ x = .val (.pointer (some ⟨b, off, none⟩))) (hy : ev ρ y = r) (hs : r.stor = true) (hE : El k.P T z sz eb) (hn : sz = r.cl.length) (hh : h = h1 ++ .cells b T0 vs :: h2)
    (hoff : off + r.cl.length ≤ vs.length) (hj : JL k ops l Q ρ (h1 ++ .cells b T0 (setAt vs off r.cl) :: h2)) : JL k ops (⟨none, .store T x y, ty, pos, after, none⟩ :: l) Q ρ h := by
  subst hh
  obtain ⟨i, hi, _, rfl, _⟩ := hE.get
  refine JL_eff_skip rfl rfl fun I a w k1 k2 => ?_
  have e1 := rel_val (k2.ev x) hx
  have e2 := rel_as (k2.ev y) hy
  obtain ⟨cs, hc1, hc2⟩ := k1.ent (.cells b T0 vs) (by simp)
  have hr := cl_rel hs e2
  have hlen : (a.eval y).cells.toList.length = r.cl.length := (AV.rels_length hr).symm
  have hcs : cs.toList.length = vs.length := (AV.rels_length hc2).symm
  have hrun := run_storeCells_at k.P b off T0 (a.eval y).cells.toList 0 cs w hc1 (by simp only [Array.length_toList] at hcs; omega) (cl_flat hs e2)
  simp only [Nat.add_zero] at hrun
  have hkeepI := fun (x : Nat) (hx : x ≠ b) => setRow_other w b x (cs.toList.take off ++ (a.eval y).cells.toList ++ cs.toList.drop (off + (a.eval y).cells.toList.length)).toArray hx
  have hb : blks (h1 ++ Ent.cells b T0 vs :: h2) = blks h1 ++ b :: blks h2 := by simp [blks, Ent.blk]
  have hI : ∀ z, I z → z ≠ b := fun z hz e => by subst e; exact (k1.imm z hz).2 (by rw [hb]; simp)
  have he : Ent.rel (w.setRow b (cs.toList.take off ++ (a.eval y).cells.toList ++ cs.toList.drop (off + (a.eval y).cells.toList.length)).toArray) I (.cells b T0 (setAt vs off r.cl)) := by
    refine ⟨_, setRow_heap w b cs _ T0 (0, 0) hc1, ?_⟩
    have hm : ∀ {xs : List AV} {us : List Value}, AV.rels w I xs us → AV.rels (w.setRow b (cs.toList.take off ++ (a.eval y).cells.toList ++ cs.toList.drop (off + (a.eval y).cells.toList.length)).toArray) I xs us :=
      fun h => AV.rels_mono (fun x hx => hkeepI x (hI x hx)) (fun _ h => h) h
    refine AV.rels_append (AV.rels_append (hm (rels_take off hc2)) (hm hr)) (hm ?_)
    rw [hlen]
    exact rels_drop _ hc2
  obtain ⟨m1, m2⟩ := k1.write (e := .cells b T0 vs) (e' := .cells b T0 (setAt vs off r.cl)) (b := b) (w' := w.setRow b _) rfl rfl rfl rfl rfl (by simp) hkeepI he
  refine ⟨_, I, _, ?_, m1, k2.mono m2 (fun _ h => h), hj⟩
  have hsize : (a.eval y).cells.size = i.size := by rw [hn, ← hlen]; simp
  simp [execOp, e1, Instr.storeAt, Instr.sureAddr, storeVar, sizeOf, typeInfo, hi, hsize, hrun]

theorem setAt_one (vs : List AV) (off : Nat) (r : AV) (h : off < vs.length) : setAt vs off [r] = vs.set off r := by
  simp only [setAt, List.length_singleton]
  rw [List.set_eq_take_append_cons_drop, if_pos h, List.append_assoc]; rfl

end

section
variable {P : Program} {G : List (Nat × List D)} {ρ : Env} {h : H} {dst : Option Tmp} {ty : TypeId} {pos : String} {after : Array Edge} {g : Option (Nat × Bool)}

theorem pure_load_cells {T T0 : TypeId} {x : Operand} {b off : Nat} {vs : List AV} {r : AV} (hT : isAggB P T = some false) (hx : ev ρ x = .val (.pointer (some ⟨b, off, none⟩))) (hh : Ent.cells b T0 vs ∈ h) (hr : vs[off]? = some r) : Pure P G ⟨dst, .load T x, ty, pos, after, g⟩ ρ h r := by
  intro c I n a w _ hok hs
  have e1 := rel_val (hs.ev x) hx
  obtain ⟨cs, hc1, hc2⟩ := hok.ent _ hh
  obtain ⟨v, hv, hrv⟩ := AV.rels_get hc2 off r hr
  refine ⟨v, hrv, fun w' hw' => ?_⟩
  have hheap : w'.heap[b]? = some (.cells cs T0 (0, 0)) := (hw'.block b (Ent.blk_lt (hok.ent _ hh) rfl)).trans hc1
  have hcell : w'.cell? ⟨b, off, none⟩ = some v := by rw [cell_of_row w' b off cs T0 (0, 0) hheap]; simpa using hv
  simp [execOp, e1, Instr.loadAt, Instr.sureAddr, loadVar, run_isAgg hT, run_load, hcell]

theorem pure_load_cells_agg {T T0 : TypeId} {x : Operand} {b off : Nat} {vs : List AV} {z : Value} {sz eb : Nat} (hT : isAggB P T = some true) (hE : El P T z sz eb) (hx : ev ρ x = .val (.pointer (some ⟨b, off, none⟩))) (hh : Ent.cells b T0 vs ∈ h) (hn : off + sz ≤ vs.length) :
    Pure P G ⟨dst, .load T x, ty, pos, after, g⟩ ρ h (.agg ((vs.drop off).take sz)) := by
  intro c I n a w _ hok hs
  obtain ⟨i, hi, _, rfl, _⟩ := hE.get
  have e1 := rel_val (hs.ev x) hx
  obtain ⟨cs, hc1, hc2⟩ := hok.ent _ hh
  have hlen : cs.toList.length = vs.length := (AV.rels_length hc2).symm
  refine ⟨.agg ((cs.toList.drop off).take i.size).toArray, ⟨_, rfl, rels_take _ (rels_drop _ hc2)⟩, fun w' hw' => ?_⟩
  have hheap : w'.heap[b]? = some (.cells cs T0 (0, 0)) := (hw'.block b (Ent.blk_lt (hok.ent _ hh) rfl)).trans hc1
  have hload := run_loadCells_list (P := P) w' ⟨b, off, none⟩ ((cs.toList.drop off).take i.size) fun j v hv => by
    rw [Addr.add_lit, cell_of_row w' b (off + j) cs T0 (0, 0) hheap]
    rw [List.getElem?_take] at hv
    split at hv
    · rw [List.getElem?_drop] at hv; simpa using hv
    · cases hv
  have hsz : ((cs.toList.drop off).take i.size).length = i.size := by
    rw [List.length_take, List.length_drop, hlen]; omega
  rw [hsz] at hload
  simp [execOp, e1, Instr.loadAt, Instr.sureAddr, loadVar, run_isAgg hT, sizeOf, typeInfo, hi, hload]

theorem pure_fieldAddr_cells {S : TypeId} {x : Operand} {f b off fo : Nat} (hF : Fld P S f fo)
    (hx : ev ρ x = .val (.pointer (some ⟨b, off, none⟩))) : Pure P G ⟨dst, .fieldAddr S x f, ty, pos, after, g⟩ ρ h (.val (.pointer (some ⟨b, off + fo, none⟩))) :=
  pure_free fun _ _ _ a hs => ⟨_, rfl, fun w' => by
    obtain ⟨fs, fd, i, hS, hf, hi, hne, rfl⟩ := hF.get
    have e1 := rel_val (hs.ev x) hx
    simp [execOp, e1, Instr.fieldAt, run_underlying hS, hf, Instr.sureAddr, fieldPlace, sizeOf, typeInfo, hi, hne, Addr.add_lit]⟩

theorem pure_indexAddr_cells {T E : TypeId} {x y : Operand} {b len cap : Nat} {n : Int} {sz eb : Nat} {z : Value} (hT : P.underlying T = some (.slice E)) (hE : El P E z sz eb)
    (hx : ev ρ x = .val (.slice (some ⟨b, 0, none⟩) len cap)) (hy : ev ρ y = .int n) (h0 : 0 ≤ n) (h1 : n < len) : Pure P G ⟨dst, .indexAddr T x y, ty, pos, after, g⟩ ρ h (.val (.pointer (some ⟨b, n.toNat * sz, none⟩))) :=
  pure_free fun _ _ _ a hs => ⟨_, rfl, fun w' => by
    obtain ⟨i, hE, _, hsz, _⟩ := hE.get
    have e1 := rel_val (hs.ev x) hx
    have e2 := rel_val (hs.ev y) hy
    simp [execOp, e1, e2, Instr.indexAt, run_underlying hT, asIntOf, h0, h1, sizeOf, typeInfo, hE, Addr.add_lit, hsz]⟩

/-- A table at package level. -/
theorem pure_global {T E : TypeId} {gl len : Nat} {y : Operand} {cs : List D} {n : Int} {z : Value} {sz eb : Nat} (hT : P.underlying T = some (.array len E)) (hE : El P E z sz eb) (hG : (gl, cs) ∈ G) (hy : ev ρ y = .int n) (h0 : 0 ≤ n) (h1 : n < len) :
    Pure P G ⟨dst, .indexAddr T (.global gl) y, ty, pos, after, g⟩ ρ h (.pd (cs.drop (n.toNat * sz))) := by
  obtain ⟨i, hi, _, rfl, _⟩ := hE.get
  intro c I m a w hGc hok hs
  have e2 := rel_val (hs.ev y) hy
  have hpd := hok.glob (gl, cs) (by rw [hGc]; exact hG)
  refine ⟨.pointer (some ⟨gl, n.toNat * i.size, none⟩), ⟨_, rfl, hpd.1, fun u x hx => ?_⟩, fun w' _ => ?_⟩
  · rw [List.getElem?_drop] at hx
    have := hpd.2 _ x hx
    simpa [Addr.add_lit] using this
  · have hlen : n < (len : Int) := h1
    have e0 : a.eval (.global gl) = .pointer (some ⟨gl, 0, none⟩) := rfl
    simp [execOp, e0, e2, Instr.indexAt, run_underlying hT, asIntOf, Instr.sureAddr, h0, hlen, sizeOf, typeInfo, hi, Addr.add_lit]
end
end Go.Av
