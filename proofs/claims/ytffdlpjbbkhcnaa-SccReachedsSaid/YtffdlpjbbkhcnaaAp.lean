/-
  PLAIN, NO PROGRAM: the rules for operations that turn nothing (over Av).
-/
import Derived.Test.YtffdlpjbbkhcnaaAv
namespace Go.Av
open Go

def D.av : D → AV
  | .i k n => .val (.int k n)
  | .b x => .val (.bool x)
  | .s x => .val (.string x)
  | .l sz eb rows => .d (.l sz eb rows)

theorem D.av_rel {w : World} {I : Nat → Prop} {x : D} {v : Value} (h : Rel w I x v) : AV.rel w I x.av v := by
  cases h with
  | i k n => rfl
  | b x => rfl
  | s x => rfl
  | nil sz eb => exact .nil sz eb
  | emp sz eb ad => exact .emp sz eb ad
  | l sz eb rows ad cap css hI hcap hm hb hsz hc hr => exact .l sz eb rows ad cap css hI hcap hm hb hsz hc hr

theorem rel_val {w : World} {I : Nat → Prop} {x : AV} {u v : Value} (h : AV.rel w I x v) (e : x = .val u) : v = u := by subst e; exact h
theorem rel_as {w : World} {I : Nat → Prop} {x y : AV} {v : Value} (h : AV.rel w I x v) (e : x = y) : AV.rel w I y v := e ▸ h

section
variable {P : Program} {G : List (Nat × List D)} {ρ : Env} {h : H} {dst : Option Tmp} {ty : TypeId} {pos : String} {after : Array Edge} {g : Option (Nat × Bool)}

theorem pure_free {o : Oper} {r : AV} (hp : ∀ (w : World) (I : Nat → Prop) (n : Nat) (a : Act), SF n w I ρ a → ∃ v, AV.rel w I r v ∧ ∀ w', (execOp a.eval o).run P w' = .ok (.value v) w') : Pure P G o ρ h r :=
  fun _ I n a w _ _ hs => let ⟨v, h1, h2⟩ := hp w I n a hs; ⟨v, h1, fun w' _ => h2 w'⟩

theorem pure_move {x : Operand} {r : AV} (hx : ev ρ x = r) : Pure P G ⟨dst, .move x, ty, pos, after, g⟩ ρ h r :=
  pure_free fun _ _ _ a hs => ⟨a.eval x, rel_as (hs.ev x) hx, fun _ => rfl⟩
theorem pure_assign {x : Operand} {r : AV} (hx : ev ρ x = r) : Pure P G ⟨dst, .assign x, ty, pos, after, g⟩ ρ h r :=
  pure_free fun _ _ _ a hs => ⟨a.eval x, rel_as (hs.ev x) hx, fun _ => rfl⟩
theorem pure_pick_true {c x y : Operand} {r : AV} (hc : ev ρ c = .val (.bool true)) (hx : ev ρ x = r) : Pure P G ⟨dst, .pick c x y, ty, pos, after, g⟩ ρ h r :=
  pure_free fun _ _ _ a hs => ⟨a.eval x, rel_as (hs.ev x) hx, fun _ => by have := rel_val (hs.ev c) hc; simp [execOp, this, asBool]⟩
theorem pure_pick_false {c x y : Operand} {r : AV} (hc : ev ρ c = .val (.bool false)) (hy : ev ρ y = r) : Pure P G ⟨dst, .pick c x y, ty, pos, after, g⟩ ρ h r :=
  pure_free fun _ _ _ a hs => ⟨a.eval y, rel_as (hs.ev y) hy, fun _ => by have := rel_val (hs.ev c) hc; simp [execOp, this, asBool]⟩

/-- An operation on two values that are told exactly. -/
theorem pure_bin {op : BinOp} {T T' : TypeId} {x y : Operand} {u v r : Value} (hx : ev ρ x = .val u) (hy : ev ρ y = .val v) (hg : ∀ w, (eqGuard op T x y u v).run P w = .ok () w) (hr : ∀ w, (binOp op T u v).run P w = .ok r w) :
    Pure P G ⟨dst, .binOp op T x y T', ty, pos, after, g⟩ ρ h (.val r) :=
  pure_free fun _ _ _ a hs => ⟨r, rfl, fun w => by
    have e1 := rel_val (hs.ev x) hx
    have e2 := rel_val (hs.ev y) hy
    simp [execOp, e1, e2, hg, hr]⟩

def inI64 (n : Int) : Prop := -9223372036854775808 ≤ n ∧ n ≤ 9223372036854775807
theorem wrap_in {n : Int} (hn : inI64 n) : IntKind.i64.wrap n = n := by
  obtain ⟨h1, h2⟩ := hn
  rw [IntKind.wrap_i64]; omega

theorem pure_add {T T' : TypeId} {x y : Operand} {m n : Int} (hx : ev ρ x = .int m) (hy : ev ρ y = .int n) (hb : inI64 (m + n)) : Pure P G ⟨dst, .binOp .add T x y T', ty, pos, after, g⟩ ρ h (.int (m + n)) :=
  pure_bin hx hy (fun _ => by rw [eqGuard_add]; rfl) fun _ => by rw [binOp_add]; simp [Op.intArith, wrap_in hb]
theorem pure_sub {T T' : TypeId} {x y : Operand} {m n : Int} (hx : ev ρ x = .int m) (hy : ev ρ y = .int n) (hb : inI64 (m - n)) : Pure P G ⟨dst, .binOp .sub T x y T', ty, pos, after, g⟩ ρ h (.int (m - n)) :=
  pure_bin hx hy (fun _ => by rw [eqGuard_sub]; rfl) fun _ => by rw [binOp_sub]; simp [Op.intArith, wrap_in hb]
theorem pure_mul {T T' : TypeId} {x y : Operand} {m n : Int} (hx : ev ρ x = .int m) (hy : ev ρ y = .int n) (hb : inI64 (m * n)) : Pure P G ⟨dst, .binOp .mul T x y T', ty, pos, after, g⟩ ρ h (.int (m * n)) :=
  pure_bin hx hy (fun _ => by rw [eqGuard_mul]; rfl) fun _ => by rw [binOp_mul]; simp [Op.intArith, wrap_in hb]
theorem pure_quo {T T' : TypeId} {x y : Operand} {m n : Int} (hx : ev ρ x = .int m) (hy : ev ρ y = .int n) (h0 : 0 ≤ m) (h1 : 0 < n) (hm : m ≤ 9223372036854775807) : Pure P G ⟨dst, .binOp .quo T x y T', ty, pos, after, g⟩ ρ h (.int (m / n)) :=
  pure_bin hx hy (fun _ => by rw [eqGuard_quo]; rfl) fun _ => by
    have hn : n ≠ 0 := by omega
    have hd : m / n ≤ m := Int.ediv_le_self _ h0
    have hd0 : 0 ≤ m / n := Int.ediv_nonneg h0 (by omega)
    rw [binOp_quo]; simp [Op.intDiv, hn, Int.tdiv_eq_ediv_of_nonneg h0, wrap_in (n := m / n) ⟨by omega, by omega⟩]
theorem pure_rem {T T' : TypeId} {x y : Operand} {m n : Int} (hx : ev ρ x = .int m) (hy : ev ρ y = .int n) (h0 : 0 ≤ m) (h1 : 0 < n) : Pure P G ⟨dst, .binOp .rem T x y T', ty, pos, after, g⟩ ρ h (.int (m % n)) :=
  pure_bin hx hy (fun _ => by rw [eqGuard_rem]; rfl) fun _ => by
    have hn : n ≠ 0 := by omega
    rw [binOp_rem]; simp [Op.intDiv, hn, Int.tmod_eq_emod_of_nonneg h0]
theorem pure_lss {T T' : TypeId} {x y : Operand} {k : IntKind} {m n : Int} (hx : ev ρ x = .val (.int k m)) (hy : ev ρ y = .val (.int k n)) : Pure P G ⟨dst, .binOp .lss T x y T', ty, pos, after, g⟩ ρ h (.bool (decide (m < n))) :=
  pure_bin hx hy (fun _ => by rw [eqGuard_lss]; rfl) fun _ => by rw [binOp_lss]; rfl
theorem pure_leq {T T' : TypeId} {x y : Operand} {k : IntKind} {m n : Int} (hx : ev ρ x = .val (.int k m)) (hy : ev ρ y = .val (.int k n)) : Pure P G ⟨dst, .binOp .leq T x y T', ty, pos, after, g⟩ ρ h (.bool (decide (m ≤ n))) :=
  pure_bin hx hy (fun _ => by rw [eqGuard_leq]; rfl) fun _ => by rw [binOp_leq]; rfl
theorem pure_gtr {T T' : TypeId} {x y : Operand} {k : IntKind} {m n : Int} (hx : ev ρ x = .val (.int k m)) (hy : ev ρ y = .val (.int k n)) : Pure P G ⟨dst, .binOp .gtr T x y T', ty, pos, after, g⟩ ρ h (.bool (decide (n < m))) :=
  pure_bin hx hy (fun _ => by rw [eqGuard_gtr]; rfl) fun _ => by rw [binOp_gtr]; rfl
theorem pure_geq {T T' : TypeId} {x y : Operand} {k : IntKind} {m n : Int} (hx : ev ρ x = .val (.int k m)) (hy : ev ρ y = .val (.int k n)) : Pure P G ⟨dst, .binOp .geq T x y T', ty, pos, after, g⟩ ρ h (.bool (decide (n ≤ m))) :=
  pure_bin hx hy (fun _ => by rw [eqGuard_geq]; rfl) fun _ => by rw [binOp_geq]; rfl
theorem pure_eql {T T' : TypeId} {x y : Operand} {k : IntKind} {m n : Int} (hx : ev ρ x = .val (.int k m)) (hy : ev ρ y = .val (.int k n)) : Pure P G ⟨dst, .binOp .eql T x y T', ty, pos, after, g⟩ ρ h (.bool (decide (m = n))) :=
  pure_bin hx hy (fun _ => by rw [eqGuard_at_int]; rfl) fun _ => by rw [binOp_eql]; rfl
theorem bne_decide (m n : Int) : (m != n) = decide (m ≠ n) := by
  by_cases h : m = n <;> simp [h]
theorem pure_neq {T T' : TypeId} {x y : Operand} {k : IntKind} {m n : Int} (hx : ev ρ x = .val (.int k m)) (hy : ev ρ y = .val (.int k n)) : Pure P G ⟨dst, .binOp .neq T x y T', ty, pos, after, g⟩ ρ h (.bool (decide (m ≠ n))) :=
  pure_bin hx hy (fun _ => by rw [eqGuard_at_int]; rfl) fun _ => by rw [binOp_neq, bne_decide]; rfl
theorem pure_eql_bool {T T' : TypeId} {x y : Operand} {p q : Bool} (hT : P.underlying T = some .bool) (hx : ev ρ x = .bool p) (hy : ev ρ y = .bool q) : Pure P G ⟨dst, .binOp .eql T x y T', ty, pos, after, g⟩ ρ h (.bool (p == q)) :=
  pure_bin hx hy (fun _ => by rw [eqGuard_at_bool]; rfl) fun w => by simp [binOp, Op.equal, Op.maxDepth, run_equalIn_bool' w 9999 T p q hT]
theorem pure_neq_bool {T T' : TypeId} {x y : Operand} {p q : Bool} (hT : P.underlying T = some .bool) (hx : ev ρ x = .bool p) (hy : ev ρ y = .bool q) : Pure P G ⟨dst, .binOp .neq T x y T', ty, pos, after, g⟩ ρ h (.bool (!(p == q))) :=
  pure_bin hx hy (fun _ => by rw [eqGuard_at_bool]; rfl) fun w => by simp [binOp, Op.equal, Op.maxDepth, run_equalIn_bool' w 9999 T p q hT]
theorem pure_eql_string {T T' : TypeId} {x y : Operand} {s t : ByteArray} (hx : ev ρ x = .val (.string s)) (hy : ev ρ y = .val (.string t)) : Pure P G ⟨dst, .binOp .eql T x y T', ty, pos, after, g⟩ ρ h (.bool (s == t)) :=
  pure_bin hx hy (fun _ => by rw [eqGuard_at_string]; rfl) fun w => by simp [binOp, Op.stringOp, beq_toListBytes]
theorem pure_neq_string {T T' : TypeId} {x y : Operand} {s t : ByteArray} (hx : ev ρ x = .val (.string s)) (hy : ev ρ y = .val (.string t)) : Pure P G ⟨dst, .binOp .neq T x y T', ty, pos, after, g⟩ ρ h (.bool (!(s == t))) :=
  pure_bin hx hy (fun _ => by rw [eqGuard_at_string]; rfl) fun w => by simp [binOp, Op.stringOp, beq_toListBytes]
theorem pure_shl {T T' : TypeId} {x y : Operand} {m n : Int} (hx : ev ρ x = .int m) (hy : ev ρ y = .int n) (h0 : 0 ≤ n) (h1 : n ≤ 64) (hb : inI64 (m * 2 ^ n.toNat)) : Pure P G ⟨dst, .binOp .shl T x y T', ty, pos, after, g⟩ ρ h (.int (m * 2 ^ n.toNat)) :=
  pure_bin hx hy (fun _ => by rw [eqGuard_shl]; rfl) fun _ => by rw [binOp_shl, shift_shl .i64 .i64 m n h0 h1, wrap_in hb]; rfl
theorem pure_shr {T T' : TypeId} {x y : Operand} {m n : Int} (hx : ev ρ x = .int m) (hy : ev ρ y = .int n) (h0 : 0 ≤ n) (h1 : n ≤ 64) : Pure P G ⟨dst, .binOp .shr T x y T', ty, pos, after, g⟩ ρ h (.int (m / 2 ^ n.toNat)) :=
  pure_bin hx hy (fun _ => by rw [eqGuard_shr]; rfl) fun _ => by rw [binOp_shr, shift_shr .i64 .i64 m n h0 h1]; rfl
theorem pure_and {T T' : TypeId} {x y : Operand} {m n : Int} (hx : ev ρ x = .int m) (hy : ev ρ y = .int n) : Pure P G ⟨dst, .binOp .and T x y T', ty, pos, after, g⟩ ρ h (.int (bits .and .i64 m n)) :=
  pure_bin hx hy (fun _ => by rw [eqGuard_and]; rfl) fun _ => by rw [binOp_and, intBits_and]; rfl
theorem pure_or {T T' : TypeId} {x y : Operand} {m n : Int} (hx : ev ρ x = .int m) (hy : ev ρ y = .int n) : Pure P G ⟨dst, .binOp .or T x y T', ty, pos, after, g⟩ ρ h (.int (bits .or .i64 m n)) :=
  pure_bin hx hy (fun _ => by rw [eqGuard_or]; rfl) fun _ => by rw [binOp_or, intBits_or]; rfl

theorem pure_not {T : TypeId} {x : Operand} {b : Bool} (hx : ev ρ x = .bool b) : Pure P G ⟨dst, .unOp .not T x, ty, pos, after, g⟩ ρ h (.bool (!b)) :=
  pure_free fun _ _ _ a hs => ⟨_, rfl, fun w => by have e1 := rel_val (hs.ev x) hx; simp [execOp, e1, Op.unary]⟩
theorem pure_neg {T : TypeId} {x : Operand} {m : Int} (hx : ev ρ x = .int m) (hb : inI64 (-m)) : Pure P G ⟨dst, .unOp .neg T x, ty, pos, after, g⟩ ρ h (.int (-m)) :=
  pure_free fun _ _ _ a hs => ⟨_, rfl, fun w => by have e1 := rel_val (hs.ev x) hx; simp [execOp, e1, Op.unary, Op.intArith, wrap_in hb]⟩
theorem pure_convert {S T : TypeId} {x : Operand} {k k' : IntKind} {m : Int} (hS : (P.underlying S).isSome = true) (hT : P.underlying T = some (.int k')) (hx : ev ρ x = .val (.int k m)) : Pure P G ⟨dst, .convert S T x, ty, pos, after, g⟩ ρ h (.val (.int k' (k'.wrap m))) :=
  pure_free fun _ _ _ a hs => ⟨_, rfl, fun w => by
    have e1 := rel_val (hs.ev x) hx
    obtain ⟨d, hd⟩ := Option.isSome_iff_exists.mp hS
    simp [execOp, e1, convert, run_underlying hd, run_underlying hT, Conv.intToInt]⟩
theorem pure_makeInterface {T : TypeId} {x : Operand} {v : Value} (hT : ∃ d, P.underlying T = some d ∧ ∀ m, d ≠ .interface m) (hx : ev ρ x = .val v) : Pure P G ⟨dst, .makeInterface T x, ty, pos, after, g⟩ ρ h (.val (.iface T v)) :=
  pure_free fun _ _ _ a hs => ⟨_, rfl, fun w => by
    have e1 := rel_val (hs.ev x) hx
    obtain ⟨d, hd, hne⟩ := hT
    simp only [execOp, e1, Instr.makeInterface, Sem.run_bind, run_underlying hd, Result.andThen_ok]
    cases d <;> first | (exact absurd rfl (hne _)) | rfl⟩
theorem pure_extract {x : Operand} {i : Nat} {vs : List AV} {r : AV} (hx : ev ρ x = .tup vs) (hi : vs[i]? = some r) : Pure P G ⟨dst, .extract x i, ty, pos, after, g⟩ ρ h r :=
  pure_free fun w I _ a hs => by
    have e1 := rel_as (hs.ev x) hx
    obtain ⟨us, e2, e3⟩ := e1
    obtain ⟨v, hv, hr⟩ := AV.rels_get e3 i r hi
    exact ⟨v, hr, fun w => by simp [execOp, e2, Instr.extract, hv]⟩
theorem pure_len {T : TypeId} {x : Operand} {sz eb : Nat} {rows : List (List D)} {E : TypeId} (hT : P.underlying T = some (.slice E)) (hx : ev ρ x = .d (.l sz eb rows)) : Pure P G ⟨dst, .call { callee := .builtin .len, args := #[x], argTypes := #[T] }, ty, pos, after, g⟩ ρ h (.int rows.length) :=
  pure_free fun w I _ a hs => by
    have e1 := rel_as (hs.ev x) hx
    refine ⟨_, rfl, fun w' => ?_⟩
    have key : ∀ ad c, a.eval x = .slice ad rows.length c → (execOp a.eval ⟨dst, .call { callee := .builtin .len, args := #[x], argTypes := #[T] }, ty, pos, after, g⟩).run P w' = .ok (.value (.int .i64 rows.length)) w' := fun ad c he => by
      simp [execOp, resolve, invoke, builtin, he, Builtin.len_, run_underlying hT, goInt]
    generalize hv : a.eval x = v at e1
    cases e1 with
    | nil => exact key _ _ hv
    | emp => exact key _ _ hv
    | l _ _ _ ad cap css => exact key _ _ hv
theorem pure_len_nil {T : TypeId} {x : Operand} {ad : Option Addr} {n c : Nat} {E : TypeId} (hT : P.underlying T = some (.slice E)) (hx : ev ρ x = .val (.slice ad n c)) : Pure P G ⟨dst, .call { callee := .builtin .len, args := #[x], argTypes := #[T] }, ty, pos, after, g⟩ ρ h (.int n) :=
  pure_free fun w I _ a hs => ⟨_, rfl, fun w' => by have e1 := rel_val (hs.ev x) hx; simp [execOp, resolve, invoke, builtin, e1, Builtin.len_, run_underlying hT, goInt]⟩
theorem pure_len_string {T : TypeId} {x : Operand} {s : ByteArray} (hT : P.underlying T = some .string) (hx : ev ρ x = .val (.string s)) : Pure P G ⟨dst, .call { callee := .builtin .len, args := #[x], argTypes := #[T] }, ty, pos, after, g⟩ ρ h (.int s.size) :=
  pure_free fun w I _ a hs => ⟨_, rfl, fun w' => by have e1 := rel_val (hs.ev x) hx; simp [execOp, resolve, invoke, builtin, e1, Builtin.len_, run_underlying hT, goInt]⟩

/-- Of a type: its zero value, how many cells, how many bytes. -/
def El (P : Program) (E : TypeId) (z : Value) (sz eb : Nat) : Prop := (P.info? E).map (fun i => (i.zero, i.size, i.bytes)) = some (some z, sz, eb)
theorem El.get {P : Program} {E : TypeId} {z : Value} {sz eb : Nat} (h : El P E z sz eb) : ∃ i, P.info? E = some i ∧ i.zero = some z ∧ i.size = sz ∧ i.bytes = eb := by
  unfold El at h
  cases hi : P.info? E with
  | none => rw [hi] at h; cases h
  | some i =>
    rw [hi] at h
    simp only [Option.map_some, Option.some.injEq, Prod.mk.injEq] at h
    exact ⟨i, rfl, h.1, h.2.1, h.2.2⟩

theorem addr_block (ad : Addr) (u : Nat) : (ad.add u).block = ad.block := by unfold Addr.add; split <;> rfl

/-- An index into a slice that nobody writes: where the element's cells lie. -/
theorem pure_indexAddr {T E : TypeId} {x y : Operand} {sz eb : Nat} {rows : List (List D)} {n : Int} {z : Value} {eb' : Nat} {r : List D} (hT : P.underlying T = some (.slice E)) (hE : El P E z sz eb')
    (hx : ev ρ x = .d (.l sz eb rows)) (hy : ev ρ y = .int n) (h0 : 0 ≤ n) (hr : rows[n.toNat]? = some r) : Pure P G ⟨dst, .indexAddr T x y, ty, pos, after, g⟩ ρ h (.pd r) :=
  pure_free fun w I _ a hs => by
    obtain ⟨i, hE, _, hsz, _⟩ := hE.get
    have e1 := rel_as (hs.ev x) hx
    have e2 := rel_val (hs.ev y) hy
    have hlt : n.toNat < rows.length := (List.getElem?_eq_some_iff.1 hr).1
    generalize hv : a.eval x = v at e1
    cases e1 with
    | nil => simp at hlt
    | emp => simp at hlt
    | l _ _ _ ad cap css hI hcap hm hb hsz' hc hrel =>
      refine ⟨.pointer (some (ad.add (n.toNat * sz))), ⟨_, rfl, by rw [addr_block]; exact hI, fun u x hx => ?_⟩, fun w' => ?_⟩
      · rw [Addr.add_add]
        exact ⟨_, hc _ u r x hr hx, hrel _ u r x hr hx⟩
      · have hn : n < (rows.length : Int) := by omega
        simp [execOp, hv, e2, Instr.indexAt, run_underlying hT, asIntOf, h0, hn, sizeOf, typeInfo, hE, hsz]

/-- A struct's field: where it lies. -/
def Fld (P : Program) (S f off : Nat) : Prop := (match P.underlying S with | some (.struct fs) => (fs[f]?).bind fun fd => ((P.info? fd.type).bind fun i => if i.size = 0 then none else some fd.offset) | _ => none) = some off
theorem Fld.get {P : Program} {S f off : Nat} (h : Fld P S f off) : ∃ fs fd i, P.underlying S = some (.struct fs) ∧ fs[f]? = some fd ∧ P.info? fd.type = some i ∧ i.size ≠ 0 ∧ fd.offset = off := by
  unfold Fld at h
  split at h
  · rename_i fs hS
    cases hf : fs[f]? with
    | none => rw [hf] at h; cases h
    | some fd =>
      rw [hf] at h
      simp only [Option.bind_some] at h
      cases hi : P.info? fd.type with
      | none => rw [hi] at h; cases h
      | some i =>
        rw [hi] at h
        simp only [Option.bind_some] at h
        split at h
        · cases h
        · rename_i hne
          exact ⟨fs, fd, i, hS, hf, hi, hne, by simpa using h⟩
  · cases h

theorem pure_fieldAddr {S : TypeId} {x : Operand} {f : Nat} {cs : List D} {off : Nat} (hF : Fld P S f off)
    (hx : ev ρ x = .pd cs) : Pure P G ⟨dst, .fieldAddr S x f, ty, pos, after, g⟩ ρ h (.pd (cs.drop off)) :=
  pure_free fun w I _ a hs => by
    obtain ⟨fs, fd, i, hS, hf, hi, hne, rfl⟩ := hF.get
    obtain ⟨ad, e1, hI, hc⟩ := rel_as (hs.ev x) hx
    refine ⟨.pointer (some (ad.add fd.offset)), ⟨_, rfl, by rw [addr_block]; exact hI, fun u x hx => ?_⟩, fun w' => ?_⟩
    · rw [Addr.add_add]
      rw [List.getElem?_drop] at hx
      exact hc _ x hx
    · simp [execOp, e1, Instr.fieldAt, run_underlying hS, hf, Instr.sureAddr, fieldPlace, sizeOf, typeInfo, hi, hne]

def isAggB (P : Program) (t : TypeId) : Option Bool :=
  match P.underlying t with
  | some (.struct _) | some (.array _ _) => some true
  | some _ => some false
  | none => none
theorem run_isAgg {t : TypeId} {b : Bool} (ht : isAggB P t = some b) (w : World) : (isAgg t).run P w = .ok b w := by
  unfold isAggB at ht
  cases hu : P.underlying t with
  | none => rw [hu] at ht; cases ht
  | some d =>
    rw [hu] at ht
    simp only [isAgg, Sem.run_bind, run_underlying hu, Result.andThen_ok]
    cases d <;> simp at ht <;> subst ht <;> rfl

/-- One cell read where nobody writes. -/
theorem pure_load {T : TypeId} {x : Operand} {c : D} {cs : List D} (hT : isAggB P T = some false) (hx : ev ρ x = .pd (c :: cs)) : Pure P G ⟨dst, .load T x, ty, pos, after, g⟩ ρ h c.av := by
  intro k I n a w _ hok hs
  obtain ⟨ad, e1, hI, hc⟩ := rel_as (hs.ev x) hx
  obtain ⟨u, hu, hr⟩ := hc 0 c rfl
  refine ⟨u, D.av_rel hr, fun w' hw' => ?_⟩
  have hb : (ad.add 0).block = ad.block := addr_block _ _
  have hcell : w'.cell? ad = some u := by
    rw [World.cell?_of_block (w := w) (hw'.block _ (hok.imm _ hI).1)]
    simpa [Addr.add] using hu
  simp [execOp, e1, Instr.loadAt, Instr.sureAddr, loadVar, run_isAgg hT, run_load, hcell]

/-- The same, the cell named by its place. -/
theorem pure_load_at {T : TypeId} {x : Operand} {c : D} {cs : List D} (hT : isAggB P T = some false) (hx : ev ρ x = .pd cs) (hc : cs[0]? = some c) : Pure P G ⟨dst, .load T x, ty, pos, after, g⟩ ρ h c.av := by
  cases cs with
  | nil => cases hc
  | cons c' cs => simp at hc; subst hc; exact pure_load hT hx

theorem rels_av {w : World} {I : Nat → Prop} : ∀ (cs : List D) (f : Nat → Value), (∀ u x, cs[u]? = some x → Rel w I x (f u)) → AV.rels w I (cs.map D.av) ((List.range cs.length).map f)
  | [], _, _ => trivial
  | c :: cs, f, hf => by
    have ih := rels_av cs (fun u => f (u + 1)) fun u x hx => hf (u + 1) x (by simpa using hx)
    simp only [List.length_cons, List.range_succ_eq_map, List.map_cons, List.map_map]
    exact ⟨D.av_rel (hf 0 c rfl), ih⟩

/-- A struct read where nobody writes. -/
theorem pure_load_agg {T : TypeId} {x : Operand} {cs cs' : List D} {z : Value} {sz eb : Nat} (hT : isAggB P T = some true) (hE : El P T z sz eb) (hx : ev ρ x = .pd cs') (hpre : cs'.take sz = cs) (hn : sz = cs.length) : Pure P G ⟨dst, .load T x, ty, pos, after, g⟩ ρ h (.agg (cs.map D.av)) := by
  intro k I n a w _ hok hs
  obtain ⟨i, hi, _, hsz, _⟩ := hE.get
  obtain ⟨ad, e1, hI, hc⟩ := rel_as (hs.ev x) hx
  have hget : ∀ u x, cs[u]? = some x → cs'[u]? = some x := fun u x hux => by
    rw [← hpre, List.getElem?_take] at hux
    split at hux
    · exact hux
    · cases hux
  let f : Nat → Value := fun u => (w.cell? (ad.add u)).getD undef
  have hf : ∀ u x, cs[u]? = some x → w.cell? (ad.add u) = some (f u) ∧ Rel w I x (f u) := fun u x hux => by
    obtain ⟨v, h1, h2⟩ := hc u x (hget u x hux)
    simp only [f, h1, Option.getD_some]
    exact ⟨trivial, h2⟩
  refine ⟨.agg ((List.range cs.length).map f).toArray, ⟨_, rfl, rels_av cs f fun u x hux => (hf u x hux).2⟩, fun w' hw' => ?_⟩
  have hload := run_loadCells (P := P) w' ad cs.length f fun j hj => by
    rw [World.cell?_of_block (w := w)]
    · exact (hf j cs[j] (List.getElem?_eq_getElem hj)).1
    · rw [addr_block]; exact hw'.block _ (hok.imm _ hI).1
  simp [execOp, e1, Instr.loadAt, Instr.sureAddr, loadVar, run_isAgg hT, sizeOf, typeInfo, hi, hsz, hn, hload]

/-- The address of what nobody writes is not nil. -/
theorem pure_nilCheck_pd {x : Operand} {cs : List D} (hx : ev ρ x = .pd cs) : Pure P G ⟨dst, .nilCheck x, ty, pos, after, g⟩ ρ h (.pd cs) :=
  pure_free fun w I _ a hs => by
    obtain ⟨ad, e1, h1⟩ := rel_as (hs.ev x) hx
    exact ⟨.pointer (some ad), ⟨ad, rfl, h1⟩, fun w' => by simp [execOp, e1]⟩
theorem pure_nilCheck {x : Operand} {ad : Addr} (hx : ev ρ x = .val (.pointer (some ad))) : Pure P G ⟨dst, .nilCheck x, ty, pos, after, g⟩ ρ h (.val (.pointer (some ad))) :=
  pure_free fun w I _ a hs => ⟨_, rfl, fun w' => by have e1 := rel_val (hs.ev x) hx; simp [execOp, e1]⟩
end
end Go.Av
