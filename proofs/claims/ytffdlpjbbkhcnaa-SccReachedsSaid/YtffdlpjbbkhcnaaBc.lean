/-
  PLAIN, NO PROGRAM: literals of structs, bytes, shifts, comparisons with nil (over Bb).
-/
import Derived.Test.YtffdlpjbbkhcnaaBb
import Derived.Laws.BytesString
namespace Go.Av
open Go

/-! ### Literals of structs -/
/-- A struct's cells when nothing is said, and where its fields lie. -/
def Bls (P : Program) (t : TypeId) (zs : List Value) (pl : List (Nat × Nat)) : Prop :=
  (match P.info? t, P.underlying t with
  | some it, some (.struct fields) =>
    match it.zero, fields.toList.mapM (fun f => (P.info? f.type).map fun i => (f.offset, i.size)) with
    | some z, some places => some (z.cells.toList, places)
    | _, _ => none
  | _, _ => none) = some (zs, pl)
theorem Bls.built {P : Program} {t : TypeId} {zs : List Value} {pl : List (Nat × Nat)} (h : Bls P t zs pl) (parts : List (Nat × Value)) : P.built t parts = Instr.fill (pl.toArray[·]?) zs.toArray parts := by
  unfold Bls at h
  unfold Program.built
  cases h1 : P.info? t with
  | none => rw [h1] at h; cases h
  | some it =>
    cases h2 : P.underlying t with
    | none => rw [h1, h2] at h; cases h
    | some d =>
      cases d with
      | struct fields =>
        rw [h1, h2] at h
        dsimp only at h ⊢
        cases h3 : it.zero with
        | none => rw [h3] at h; cases h
        | some z =>
          cases h4 : fields.toList.mapM (fun f => (P.info? f.type).map fun i => (f.offset, i.size)) with
          | none => rw [h3, h4] at h; cases h
          | some places =>
            rw [h3, h4] at h
            simp only [Option.some.injEq, Prod.mk.injEq] at h
            obtain ⟨h5, rfl⟩ := h
            subst h5
            rfl
      | _ => rw [h1, h2] at h; cases h
/-- The cells of a literal. -/
def fillAV (pl : List (Nat × Nat)) : List AV → List (Nat × AV) → Option (List AV)
  | cs, [] => some cs
  | cs, (i, x) :: r =>
    match pl[i]? with
    | none => none
    | some p => bif Nat.beq x.cl.length p.2 && Nat.ble (p.1 + p.2) cs.length then fillAV pl (setAt cs p.1 x.cl) r else none
inductive All2 {α β : Type} (R : α → β → Prop) : List α → List β → Prop where
  | nil : All2 R [] []
  | cons {a : α} {b : β} {as : List α} {bs : List β} (h : R a b) (t : All2 R as bs) : All2 R (a :: as) (b :: bs)
theorem fill_rel {w : World} {I : Nat → Prop} {pl : List (Nat × Nat)} : ∀ {ps : List (Nat × AV)} {vs : List (Nat × Value)} {avs avs' : List AV} {cs : Array Value}, AV.rels w I avs cs.toList → All2 (fun p q => p.1 = q.1 ∧ AV.rel w I p.2 q.2 ∧ p.2.stor = true) ps vs → fillAV pl avs ps = some avs' →
    ∃ cs', Instr.fill (pl.toArray[·]?) cs vs = some cs' ∧ AV.rels w I avs' cs'.toList
  | [], [], avs, avs', cs, hr, _, hf => by cases hf; exact ⟨cs, rfl, hr⟩
  | (i, x) :: ps, (j, v) :: vs, avs, avs', cs, hr, .cons ⟨h1, h2, h3⟩ h4, hf => by
    cases h1
    simp only [fillAV] at hf
    cases hp : pl[i]? with
    | none => rw [hp] at hf; cases hf
    | some p =>
      rw [hp] at hf
      dsimp only at hf
      cases hc : Nat.beq x.cl.length p.2 && Nat.ble (p.1 + p.2) avs.length with
      | false => rw [hc] at hf; cases hf
      | true =>
        rw [hc] at hf
        simp only [cond_true] at hf
        rw [Bool.and_eq_true] at hc
        have e1 := Nat.eq_of_beq_eq_true hc.1
        have e2 := Nat.le_of_ble_eq_true hc.2
        have hcl := cl_rel h3 h2
        have hvl : v.cells.toList.length = x.cl.length := (AV.rels_length hcl).symm
        have hcs : cs.toList.length = avs.length := (AV.rels_length hr).symm
        have hsz : v.cells.size = p.2 := by rw [← e1, ← hvl]; simp
        have hfold := fold_set v.cells.toList 0 cs (cs.toList.take p.1) (cs.toList.drop p.1) (List.take_append_drop _ _).symm (by rw [List.length_drop, hcs, hvl, e1]; omega)
        have htl : (cs.toList.take p.1).length = p.1 := by rw [List.length_take, hcs]; omega
        rcases hfold with hfold | hfold
        case inr => omega
        rw [htl, Nat.sub_zero, List.drop_drop] at hfold
        have hstep : AV.rels w I (setAt avs p.1 x.cl) ((v.cells.zipIdx).foldl (fun cs q => cs.setIfInBounds (p.1 + q.2) q.1) cs).toList := by
          rw [← Array.foldl_toList, Array.toList_zipIdx, hfold]
          unfold setAt
          rw [hvl]
          exact AV.rels_append (AV.rels_append (rels_take _ hr) hcl) (rels_drop _ hr)
        obtain ⟨cs', g1, g2⟩ := fill_rel hstep h4 hf
        refine ⟨cs', ?_, g2⟩
        have hb : (v.cells.size ≠ p.2 || p.1 + v.cells.size > cs.size) = false := by
          refine Bool.or_eq_false_iff.2 ⟨by simp [hsz], decide_eq_false ?_⟩
          have : cs.size = avs.length := by rw [← hcs]; simp
          omega
        simp only [Instr.fill]
        have hpa : (pl.toArray)[i]? = some p := by simpa using hp
        rw [hpa]
        dsimp only
        rw [hb]
        exact g1
def partsO (ρ : Env) : List (Nat × Operand) → Option (List (Nat × AV))
  | [] => some []
  | (i, x) :: r => (evO ρ x).bind fun a => (partsO ρ r).bind fun as => some ((i, a) :: as)
theorem partsO_rel {n : Nat} {w : World} {I : Nat → Prop} {ρ : Env} {a : Act} (f : SF n w I ρ a) : ∀ {ps : List (Nat × Operand)} {xs : List (Nat × AV)}, partsO ρ ps = some xs → xs.all (fun p => p.2.stor) = true → All2 (fun p q => p.1 = q.1 ∧ AV.rel w I p.2 q.2 ∧ p.2.stor = true) xs (ps.map fun p => (p.1, a.eval p.2))
  | [], xs, h, _ => by cases h; exact .nil
  | (i, x) :: ps, xs, h, hs => by
    simp only [partsO] at h
    cases h1 : evO ρ x with
    | none => rw [h1] at h; cases h
    | some r =>
      cases h2 : partsO ρ ps with
      | none => rw [h1, h2] at h; cases h
      | some rs =>
        rw [h1, h2] at h
        cases h
        simp only [List.all_cons, Bool.and_eq_true] at hs
        refine .cons ⟨rfl, ?_, hs.1⟩ (partsO_rel f h2 hs.2)
        have := f.ev x
        rw [ev_of_evO h1] at this
        exact this
section
variable {P : Program} {G : List (Nat × List D)} {ρ : Env} {h : H} {dst : Option Tmp} {ty : TypeId} {pos : String} {after : Array Edge} {g : Option (Nat × Bool)}
theorem pu_build {T : TypeId} {zs : List Value} {pl : List (Nat × Nat)} {parts : Array (Nat × Operand)} {xs : List (Nat × AV)} {cs : List AV} (hB : Bls P T zs pl) (hx : partsO ρ parts.toList = some xs) (hs : xs.all (fun p => p.2.stor) = true) (hf : fillAV pl (zs.map AV.val) xs = some cs) :
    Pure P G ⟨dst, .build T parts, ty, pos, after, g⟩ ρ h (.agg cs) :=
  pure_free fun w I _ a k => by
    obtain ⟨cs', g1, g2⟩ := fill_rel (cs := zs.toArray) (by simpa using rels_vals w I zs) (partsO_rel k hx hs) hf
    refine ⟨.agg cs', ⟨cs'.toList, by simp, g2⟩, fun w' => ?_⟩
    have e : (parts.map fun (i, x) => (i, a.eval x)).toList = parts.toList.map fun p => (p.1, a.eval p.2) := by simp
    have := run_build (P := P) w' T (parts.map fun (i, x) => (i, a.eval x)) cs' (by rw [hB.built, e]; exact g1)
    simp [execOp, this]

/-! ### Bytes -/
def byteC (b : UInt8) : List D := [.i .u8 b.toNat]
abbrev bytesD (l : List UInt8) : D := .l 1 1 (l.map byteC)
abbrev AV.byte (b : UInt8) : AV := .val (.int .u8 (b.toNat : Int))
theorem bytes_flat (l : List UInt8) : l.map AV.byte = ((l.map byteC).flatten).map D.av := by
  induction l with
  | nil => rfl
  | cons x l ih => simp only [List.map_cons, List.flatten_cons, List.map_append, ← ih]; rfl
theorem pu_byte_int {S T : TypeId} {x : Operand} {b : UInt8} (hS : (P.underlying S).isSome = true) (hT : P.underlying T = some (.int .i64)) (hx : evO ρ x = some (AV.byte b)) : Pure P G ⟨dst, .convert S T x, ty, pos, after, g⟩ ρ h (.int (b.toNat : Int)) := by
  have := pure_convert (P := P) (G := G) (h := h) (dst := dst) (ty := ty) (pos := pos) (after := after) (g := g) hS hT (ev_of_evO hx)
  have hb := b.toNat_lt
  rwa [wrap_in (by unfold inI64; omega)] at this
theorem ofInt_toNat (n : Int) : ((UInt8.ofInt n).toNat : Int) = n % 256 := by
  simp [UInt8.ofInt, UInt8.toNat_ofNat']; omega
theorem pu_int_byte {S T : TypeId} {x : Operand} {n : Int} (hS : (P.underlying S).isSome = true) (hT : P.underlying T = some (.int .u8)) (hx : evO ρ x = some (.int n)) : Pure P G ⟨dst, .convert S T x, ty, pos, after, g⟩ ρ h (AV.byte (UInt8.ofInt n)) := by
  have := pure_convert (P := P) (G := G) (h := h) (dst := dst) (ty := ty) (pos := pos) (after := after) (g := g) hS hT (ev_of_evO hx)
  rw [IntKind.wrap_u8] at this
  unfold AV.byte
  rwa [ofInt_toNat]
theorem pu_int_int {S T : TypeId} {x : Operand} {n : Int} (hS : (P.underlying S).isSome = true) (hT : P.underlying T = some (.int .i64)) (hx : evO ρ x = some (.int n)) (hb : inI64 n) : Pure P G ⟨dst, .convert S T x, ty, pos, after, g⟩ ρ h (.int n) := by
  have := pure_convert (P := P) (G := G) (h := h) (dst := dst) (ty := ty) (pos := pos) (after := after) (g := g) hS hT (ev_of_evO hx)
  rwa [wrap_in hb] at this
theorem foldl_push : ∀ (l : List UInt8) (s : ByteArray), (l.map fun b => (b.toNat : Int)).foldl (fun (r : ByteArray) n => r.push (UInt8.ofNat n.toNat)) s = ⟨s.data ++ l.toArray⟩
  | [], s => by simp
  | b :: l, s => by
    rw [List.map_cons, List.foldl_cons, foldl_push l]
    simp [ByteArray.push]
/-- string(bytes). -/
theorem pu_bytes_string {S T e : TypeId} {x : Operand} {l : List UInt8} (hx : evO ρ x = some (.d (bytesD l))) (hS : P.underlying S = some (.slice e)) (he : P.underlying e = some (.int .u8)) (hT : P.underlying T = some .string) : Pure P G ⟨dst, .convert S T x, ty, pos, after, g⟩ ρ h (.val (.string ⟨l.toArray⟩)) := by
  intro c I n a w _ k s
  have e1 : Rel w I (bytesD l) (a.eval x) := by have := s.ev x; rw [ev_of_evO hx] at this; exact this
  refine ⟨_, rfl, fun w' hw' => ?_⟩
  have e2 : Rel w' I (bytesD l) (a.eval x) := e1.mono (fun b hb => hw'.block b (k.imm b hb).1) fun _ h => h
  rcases Rel.cells_of (by decide) e2 with ⟨e3, hn⟩ | ⟨ad, cap, us, e3, hl, hc, h1c, hrel⟩
  · have : l = [] := by simpa using hn
    subst this
    have hl0 := run_loadCells_list (P := P) w' ⟨0, 0, none⟩ [] (by simp)
    simp [execOp, e3, convert, run_underlying hS, run_underlying hT, run_underlying he, Conv.bytesToString]
    rfl
  · have hus : us = (l.map fun b => (b.toNat : Int)).map (Value.int .u8) := by
      rw [← bytes_flat] at hrel
      clear hl hc h1c e3 e2 e1 hx
      induction l generalizing us with
      | nil => cases us with
        | nil => rfl
        | cons _ _ => exact hrel.elim
      | cons b l ih =>
        cases us with
        | nil => exact hrel.elim
        | cons u us =>
          have h1 : u = .int .u8 b.toNat := hrel.1
          rw [h1, ih us hrel.2]; rfl
    have hlen : us.length = l.length := by simp [hus]
    have hload := run_loadCells_list (P := P) w' ad us hc
    rw [hlen, hus] at hload
    have hrun := run_bytesToString (P := P) w' ad l.length cap _ hload
    rw [foldl_push] at hrun
    have hconv := run_convert_bytes_string (P := P) w' S T e (some ad) l.length cap hS he hT
    rw [List.length_map] at e3
    simp [execOp, e3, hconv, hrun]
theorem pure_shl_u {T T' : TypeId} {x y : Operand} {m n : Int} (hx : ev ρ x = .int m) (hy : evO ρ y = some (.val (.int .u64 n))) (h0 : 0 ≤ n) (h1 : n ≤ 64) (hb : inI64 (m * 2 ^ n.toNat)) : Pure P G ⟨dst, .binOp .shl T x y T', ty, pos, after, g⟩ ρ h (.int (m * 2 ^ n.toNat)) :=
  pure_bin hx (ev_of_evO hy) (fun _ => by rw [eqGuard_shl]; rfl) fun _ => by rw [binOp_shl, shift_shl .i64 .u64 m n h0 h1, wrap_in hb]; rfl
theorem pure_shr_u {T T' : TypeId} {x y : Operand} {m n : Int} (hx : ev ρ x = .int m) (hy : evO ρ y = some (.val (.int .u64 n))) (h0 : 0 ≤ n) (h1 : n ≤ 64) : Pure P G ⟨dst, .binOp .shr T x y T', ty, pos, after, g⟩ ρ h (.int (m / 2 ^ n.toNat)) :=
  pure_bin hx (ev_of_evO hy) (fun _ => by rw [eqGuard_shr]; rfl) fun _ => by rw [binOp_shr, shift_shr .i64 .u64 m n h0 h1]; rfl
/-- The length of a row that may grow. -/
theorem pu_len_row {T E E' : TypeId} {x : Operand} {v : Value} {n sz : Nat} {xs : List AV} (hT : P.underlying T = some (.slice E')) (hx : evO ρ x = some (.val v)) (hm : Ent.row v n E sz xs ∈ h) : Pure P G ⟨dst, .call { callee := .builtin .len, args := #[x], argTypes := #[T] }, ty, pos, after, g⟩ ρ h (.int n) := by
  intro c I m a w _ k s
  have e1 := rel_val (s.ev x) (ev_of_evO hx)
  refine ⟨_, rfl, fun w' _ => ?_⟩
  obtain ⟨us, ho, _⟩ := k.ent _ hm
  rcases ho.2 with ⟨rfl, rfl⟩ | ⟨g, cap, cur, rfl, _⟩
  · simp [execOp, resolve, invoke, builtin, e1, Builtin.len_, run_underlying hT, goInt]
  · simp [execOp, resolve, invoke, builtin, e1, Builtin.len_, run_underlying hT, goInt]
end
section
variable {k : Kx} {Q : Exit → Env → H → Prop} {ρ ρ' : Env} {h h1 h2 : H} {ops : Array Oper} {l : List Oper} {d : Nat} {dst : Option Tmp} {ty : TypeId} {pos : String} {after : Array Edge} {g : Option (Nat × Bool)}
/-- data == nil. -/
theorem eq_nil_run {P : Program} {T E : TypeId} (hT : P.underlying T = some (.slice E)) (ad : Option Addr) (n c : Nat) (w : World) : (binOp .eql T (.slice ad n c) (.slice none 0 0)).run P w = .ok (.bool ad.isNone) w := by
  have h1 : ∀ m, (Op.equalIn (m + 1) T (.slice ad n c) (.slice none 0 0)).run P w = .ok ad.isNone w := fun m => by
    simp only [Op.equalIn, Sem.run_bind, run_underlying hT, Result.andThen_ok]
    cases ad <;> rfl
  have h2 : (Op.equal T (.slice ad n c) (.slice none 0 0)).run P w = .ok ad.isNone w := h1 9999
  simp only [binOp, Sem.run_bind, h2]
  first | rfl | simp
theorem jeqnil {T T' E : TypeId} {x y : Operand} {sz eb : Nat} {rows : List (List D)} (hx : evO ρ x = some (.d (.l sz eb rows))) (hy : evO ρ y = some (.val (.slice none 0 0))) (hT : k.P.underlying T = some (.slice E)) (hd : Nat.blt d k.n = true)
    (hj : All fun b => Imp (b = true → rows = []) (JL k ops l Q ((d, .bool b) :: ρ) h)) : JL k ops (⟨some d, .binOp .eql T x y T', ty, pos, after, none⟩ :: l) Q ρ h := by
  refine JL_eff rfl (fun t ht => by cases ht; exact blt hd) fun I a w k1 k2 => ?_
  have e1 := rel_as (k2.ev x) (ev_of_evO hx)
  have e2 := rel_val (k2.ev y) (ev_of_evO hy)
  have key : ∀ (b : Bool), (b = true → rows = []) → (execOp a.eval ⟨some d, .binOp .eql T x y T', ty, pos, after, none⟩).run k.P w = .ok (.value (.bool b)) w →
      ∃ v w' I' r h', (execOp a.eval ⟨some d, .binOp .eql T x y T', ty, pos, after, none⟩).run k.P w = .ok (.value v) w' ∧ Ok k.c I' h' w' ∧ SF k.n w' I' ρ a ∧ AV.rel w' I' r v ∧ JL k ops l Q (put ρ (some d) r) h' :=
    fun b hb hrun => ⟨_, w, I, .bool b, h, hrun, k1, k2, rfl, (hj.get b).get hb⟩
  generalize hv : a.eval x = v at e1
  cases e1 with
  | nil => exact key true (fun _ => rfl) (by simp [execOp, hv, e2, eq_nil_run hT, eqGuard])
  | emp => exact key false (fun h => by cases h) (by simp [execOp, hv, e2, eq_nil_run hT, eqGuard])
  | l _ _ _ ad cap css => exact key false (fun h => by cases h) (by simp [execOp, hv, e2, eq_nil_run hT, eqGuard])
/-- A literal of nothing: a row of the call's own. -/
theorem jbuild0 {α : Type} (f : α → List D) {T E : TypeId} {z : Value} {sz eb : Nat} (hT : k.P.underlying T = some (.slice E)) (he : El k.P E z sz eb) (hd : Nat.blt d k.n = true)
    (hj : All fun v => JL k ops l Q ((d, .val v) :: ρ) (rowE v E sz f [] :: h)) : JL k ops (⟨some d, .buildSlice T 0 #[], ty, pos, after, none⟩ :: l) Q ρ h := by
  obtain ⟨i, hi, hz0, hz1, _⟩ := he.get
  refine JL_eff rfl (fun t ht => by cases ht; exact blt hd) fun I a w k1 k2 => ?_
  refine ⟨.slice (some ⟨w.heap.size, 0, none⟩) 0 0, w.alloc (.cells #[] E), I, .val (.slice (some ⟨w.heap.size, 0, none⟩) 0 0), _, ?_, k1.fresh _ (rowE (.slice (some ⟨w.heap.size, 0, none⟩) 0 0) E sz f []) rfl ?_, k2.fresh k1 _, rfl, hj.get _⟩
  · simp [execOp, Instr.buildSlice, run_underlying hT, sizeOf, typeInfo, hi, Instr.fill, newRow]
    have : Array.range 0 = #[] := by apply Array.ext'; simp
    rw [this, Array.map_empty]
  · refine ⟨[], ⟨by simp, .inr ⟨w.heap.size, 0, #[], rfl, by simp, heap_alloc_new w _, ?_⟩⟩, trivial⟩
    simp
end
end Go.Av
