/- A bundle of this claim's own texts: E19 E22 El St T1 T2. -/
import Derived.Lib.AppendStr
import Derived.Lib.UnsafeStr
import Derived.Laws.Strings3
import Derived.Lib.ItoaNum
import Derived.Test.YtajnpfgelpkijaaGreatDoorProg
import Derived.RegionTactic
import Derived.Test.YtajnpfgelpkijaaGreatDoorA1
import Derived.Test.YtajnpfgelpkijaaGreatDoorA2
import Derived.Test.YtajnpfgelpkijaaGreatDoorA3
set_option linter.unusedVariables false
set_option linter.unusedSimpArgs false
set_option maxRecDepth 100000
set_option maxHeartbeats 4000000
namespace Go.Av
open Go
section
variable {P : Program} {G : List (Nat × List D)} {ρ : Env} {h : H} {dst : Option Tmp} {ty : TypeId} {pos : String} {after : Array Edge} {g : Option (Nat × Bool)}
theorem Zp {T T' : TypeId} {x y : Operand} {s t : ByteArray} (hx : evO ρ x = some (.val (.string s))) (hy : evO ρ y = some (.val (.string t))) (hb : s.size + t.size ≤ 9223372036854775807) : Pure P G ⟨dst, .binOp .add T x y T', ty, pos, after, g⟩ ρ h (.val (.string (s ++ t))) :=
 A5 (AA hx) (AA hy) (fun _ => rfl) fun w => by
  have hn : ¬ (IntKind.i64.max < ((s.size : Int) + (t.size : Int))) := by
   have : IntKind.i64.max = 9223372036854775807 := rfl
   omega
  simp [binOp, Op.stringOp, hn]
  have : IntKind.i64.max = 9223372036854775807 := rfl
  omega
theorem SA {α : Type} {f : α → List D} {xs : List α} {ts : Array TypeId} {E : TypeId} {x : Operand} {sz : Nat} {q : Sl} (hx : evO ρ x = some (.val q.v)) (hm : AF q.v E sz f xs ∈ h) (h0 : 0 < xs.length) : Pure P G ⟨dst, .call { callee := .builtin .unsafeSliceData, args := #[x], argTypes := ts }, ty, pos, after, g⟩ ρ h (.val (.pointer (some (q.at 0)))) := by
 intro c I m a w _ k s
 have e1 := AI (s.ev x) (AA hx)
 obtain ⟨us, ho, _⟩ := k.ent _ hm
 refine ⟨_, rfl, fun w' _ => ?_⟩
 obtain ⟨ad, n, cap⟩ := q
 rcases ho.2 with ⟨hv, hn⟩ | ⟨gg, cap', cur, hv, _, _, hnc, _⟩
 · omega
 · simp only [Value.slice.injEq] at hv
   obtain ⟨rfl, rfl, rfl⟩ := hv
   have hr := Lib.run_unsafeSliceData_row (P := P) (w := w') ts ty ⟨gg, 0, none⟩ xs.length cap (by omega)
   simp [execOp, resolve, invoke, builtin, e1, hr, Sl.at]
end
section
variable {k : Kx} {Q : Exit → Env → H → Prop} {ρ : Env} {h : H} {ops : Array Oper} {l : List Oper} {d : Nat} {ty : TypeId} {pos : String} {after : Array Edge}
theorem Ib (l : List UInt8) : ((l.map Bb).flatten.map D.av) = l.map fun b => AV.val (.int .u8 b.toNat) := by
 induction l with
 | nil => rfl
 | cons b l ih => rw [List.map_cons, List.flatten_cons, List.map_append, ih]; rfl
theorem Mg (w : World) (I : Nat → Prop) : ∀ l : List UInt8, AV.rels w I (l.map fun b => AV.val (.int .u8 b.toNat)) (l.map fun b => Value.int .u8 b.toNat)
 | [] => trivial
 | _ :: l => ⟨rfl, Mg w I l⟩
theorem fp {xs : List UInt8} {T U E : TypeId} {x y : Operand} {s : ByteArray} {v : Value} {H' : Sl → H} (hx : evO ρ x = some (.val v)) (hT : k.P.underlying T = some (.slice E)) (hU : k.P.underlying U = some .string) (he : El k.P E (.int .u8 0) 1 1)
 (hu : ∀ q : Sl, Upd (AF v E 1 Bb xs) (AF q.v E 1 Bb (xs ++ s.data.toList)) h (H' q)) (hy : evO ρ y = some (.val (.string s))) (hd : Nat.blt d k.n = true) (hb : xs.length + s.size ≤ 140737488355328)
 (hj : All fun q : Sl => JL k ops l Q ((d, .val q.v) :: ρ) (H' q)) :
 JL k ops (⟨some d, .call { callee := .builtin .append, args := #[x, y], argTypes := #[T, U] }, ty, pos, after, none⟩ :: l) Q ρ h := by
 obtain ⟨h1, h2, e1, _⟩ := (hu Sl.nil).split
 subst e1
 obtain ⟨i, hi, hz0, hz1, hz2⟩ := he.get
 refine DT rfl (fun t ht => by cases ht; exact blt hd) fun I a w k1 k2 => ?_
 have e1 := AI (k2.ev x) (AA hx)
 have e2 := AI (k2.ev y) (AA hy)
 obtain ⟨os, ho, hos⟩ := k1.ent (AF v E 1 Bb xs) (by simp)
 have hml : xs.length + s.size ≤ maxLen := by simp only [maxLen]; omega
 have hxo : os.length = xs.length := by simpa using ho.1
 obtain ⟨v', w', hrun, q1, q2, q3⟩ := Lib.run_append_own_string (P := k.P) w 0 T U ty E i hT hU hi hz0 hz1 hz2 v xs.length os ho s hml hb (Nat.zero_le _)
 have hloc : v'.ownBlock = v.ownBlock ∨ v'.ownBlock = some w.heap.size := by
  rcases ho.2 with ⟨hv, hn⟩ | ⟨g, cap, cur, hv, _, hg, hnc, hcm, hcs, _⟩
  · subst hv
    by_cases hs0 : s.size = 0
    · left; rw [q3.2 ⟨rfl, hs0⟩]
    · right
      have hr := run_append_nil_string (P := k.P) w T U ty E i (.int .u8 0) hT hU hi hz0 s (by omega) (by omega) (by rw [hz2]; omega)
      rw [hrun] at hr
      injection hr with e3 _
      rw [e3]; rfl
  · subst hv
    by_cases hroom : xs.length + s.size ≤ cap
    · left
      have hr := Lib.run_append_room_string (P := k.P) w T U ty E i hT hU hi hz1 g xs.length cap cur hg s hroom (by rw [hcs]; omega)
      rw [hrun] at hr
      injection hr with e3 _
      rw [e3]; rfl
    · right
      have hr := Lib.run_append_grow_string (P := k.P) w T U ty E i (.int .u8 0) hT hU hi hz0 ⟨g, 0, none⟩ xs.length cap os (by rw [hz1]; omega) (fun j u hj => ho.cells (g := g) rfl j u hj) s (by omega) (by omega) (by rw [hz2]; exact growslice_fits (by omega) (by omega))
      rw [hrun] at hr
      injection hr with e3 _
      rw [e3]; rfl
 obtain ⟨m1, m2⟩ := k1.grown (ys := s.data.toList.map fun b => AV.val (.int .u8 b.toNat)) q2 hloc ⟨os, q1, ho, hos⟩ (Mg w I _)
 refine ⟨v', w', I, .val v', _, ?_, m1, k2.mono m2 (fun _ h => h), rfl, ?_⟩
 · simp [execOp, resolve, invoke, builtin, e1, e2, hrun]
 · refine HC (h1 := h1) (h2 := h2) rfl fun q hq => ?_
   subst hq
   refine FX (VS.perm ?_) (hj.get q)
   obtain ⟨r, p1, p2⟩ := (hu q).perm
   have e3 : Ent.row q.v (xs.length + s.size) E 1 (((xs.map Bb).flatten.map D.av) ++ s.data.toList.map fun b => AV.val (.int .u8 b.toNat)) = AF q.v E 1 Bb (xs ++ s.data.toList) := by
    have hsz : s.size = s.data.toList.length := by rw [Array.length_toList]; rfl
    unfold AF
    rw [Ib, Ib, List.map_append, List.length_append, hsz]
   rw [e3]
   refine List.perm_middle.trans (List.Perm.trans (List.Perm.cons _ ?_) p2.symm)
   exact (List.perm_middle.symm.trans p1).cons_inv
theorem Ok.frozen {c : Cx} {I : Nat → Prop} {h : H} {e : Ent} {w : World} {b : Nat} (k : Ok c I (e :: h) w) (hb : e.blk = some b) (n : Nat) : Ok c I h (w.freeze ⟨b, 0, none⟩ n) ∧ ∀ x, I x → (w.freeze ⟨b, 0, none⟩ n).heap[x]? = w.heap[x]? := by
 have hm : b ∈ blks (e :: h) := by simp [blks, hb]
 have hblk : blks (e :: h) = b :: blks h := by simp [blks, hb]
 have hnd := k.nd
 rw [hblk] at hnd
 have hother : ∀ x, x ≠ b → (w.freeze ⟨b, 0, none⟩ n).heap[x]? = w.heap[x]? := fun x hx => by
  unfold World.freeze
  split
  · rfl
  · simp only [Array.getElem?_modify]; rw [if_neg (fun e => hx e.symm)]
 have hI : ∀ x, I x → x ≠ b := fun x hx e => (k.imm x hx).2 (e ▸ hm)
 have hsz : (w.freeze ⟨b, 0, none⟩ n).heap.size = w.heap.size := by unfold World.freeze; split <;> simp
 have hrest : (w.freeze ⟨b, 0, none⟩ n).os = w.os ∧ (w.freeze ⟨b, 0, none⟩ n).tape = w.tape ∧ (w.freeze ⟨b, 0, none⟩ n).output = w.output := by unfold World.freeze; split <;> exact ⟨rfl, rfl, rfl⟩
 refine ⟨?_, fun x hx => hother x (hI x hx)⟩
 exact
 { ent := fun e' he => by
    refine Ent.rel_mono (fun x hx => hother x (hI x hx)) (fun _ h => h) (fun x hx => hother x fun e1 => ?_) (k.ent e' (List.mem_cons_of_mem _ he))
    exact (List.nodup_cons.1 hnd).1 (e1 ▸ List.mem_filterMap.2 ⟨e', he, hx⟩)
   nd := (List.nodup_cons.1 hnd).2
   imm := fun x hx => ⟨by rw [hsz]; exact (k.imm x hx).1, fun hm' => (k.imm x hx).2 (by rw [hblk]; exact List.mem_cons_of_mem _ hm')⟩
   new := fun x hx => k.new x (by rw [hblk]; exact List.mem_cons_of_mem _ hx)
   inew := k.inew
   sup := k.sup
   os := hrest.1.trans k.os
   tape := hrest.2.1.trans k.tape
   output := hrest.2.2.trans k.output
   size := by rw [hsz]; exact k.size
   keep := fun x hx hE => by
    refine (hother x fun e1 => ?_).trans (k.keep x hx hE)
    subst e1
    rcases k.new x hm with h' | h'
    · exact hE h'
    · exact absurd hx (Nat.not_lt.2 h')
   glob := fun q hq => (k.glob q hq).mono (fun x hx => hother x (hI x hx)) fun _ h => h }
theorem cm {xs : List UInt8} {E PT IT : TypeId} {x y : Operand} {q : Sl} {h' : H} (hx : evO ρ x = some (.val (.pointer (some (q.at 0))))) (hy : evO ρ y = some (.int (xs.length : Nat))) (hP : k.P.underlying PT = some (.pointer E)) (hc : k.P.cellsOf E = 1)
 (hs : Sel (AF q.v E 1 Bb xs) h h') (h0 : 0 < xs.length) (hd : Nat.blt d k.n = true) (hb : xs.length ≤ 140737488355328) (hj : JL k ops l Q ((d, .val (.string ⟨xs.toArray⟩)) :: ρ) h') :
 JL k ops (⟨some d, .call { callee := .builtin .unsafeString, args := #[x, y], argTypes := #[PT, IT] }, ty, pos, after, none⟩ :: l) Q ρ h := by
 refine FX (VS.perm hs.perm) ?_
 refine DT rfl (fun t ht => by cases ht; exact blt hd) fun I a w k1 k2 => ?_
 have e1 := AI (k2.ev x) (AA hx)
 have e2 := AI (k2.ev y) (AA hy)
 obtain ⟨os, ho, hos⟩ := k1.ent (AF q.v E 1 Bb xs) List.mem_cons_self
 obtain ⟨ad, n, cap⟩ := q
 rcases ho.2 with ⟨hv, hn⟩ | ⟨g, cap', cur, hv, _, hg, hnc, hcm, hcs, _⟩
 · omega
 · simp only [Value.slice.injEq] at hv
   obtain ⟨rfl, rfl, rfl⟩ := hv
   have hcell : ∀ j z, xs[j]? = some z → w.cell? ((⟨g, 0, none⟩ : Addr).add j) = some (.int .u8 z.toNat) := fun j z hz => by
    rw [Ib] at hos
    obtain ⟨c, hc1, hc2⟩ := AV.rels_get hos j (.val (.int .u8 z.toNat)) (by rw [List.getElem?_map, hz]; rfl)
    cases hc2
    exact ho.cells (g := g) rfl j _ hc1
   have hrun := Lib.run_unsafeString_row (P := k.P) w PT IT ty E hP hc g cur.size (by simp [World.shape?, hg]) xs (by intro e; subst e; simp at h0) (by rw [hcs]; omega) (by omega) hcell
   obtain ⟨m1, m2⟩ := Ok.frozen (b := g) k1 rfl xs.length
   refine ⟨.string ⟨xs.toArray⟩, _, I, .val (.string ⟨xs.toArray⟩), _, ?_, m1, k2.mono m2 (fun _ h => h), rfl, hj⟩
   have e1' : a.eval x = .pointer (some ⟨g, 0, none⟩) := e1
   simp [execOp, resolve, invoke, builtin, e1', e2, hrun]
end
end Go.Av
namespace Go.Sp
open Go Go.Av
abbrev tx (l : List UInt8) : ByteArray := ⟨l.toArray⟩
theorem Xj (a b : List UInt8) : tx a ++ tx b = tx (a ++ b) := by
 apply ByteArray.ext
 rw [ByteArray.data_append]
 simp
theorem FJ (s : ByteArray) : tx s.data.toList = s := by
 apply ByteArray.ext
 simp
theorem PR (l : List UInt8) : (tx l).size = l.length := rfl
theorem app_tx (a : List UInt8) (s : ByteArray) : tx a ++ s = tx (a ++ s.data.toList) := by rw [← Xj, FJ]
theorem Yb {a b : List UInt8} (h : tx a = tx b) : a = b := by
 have := congrArg (fun s : ByteArray => s.data.toList) h
 simpa using this
def Gu : List (List UInt8) := [[], [], [], [43], [45], [42], [61], [60], [38], [124], [33], [121, 101, 115], [110, 111], [], [88], [85], [82], [70], [71]]
end Go.Sp
namespace Go.Av
open Go Go.Sp
section
variable {P : Program} {G : List (Nat × List D)} {ρ : Env} {h : H} {dst : Option Tmp} {ty : TypeId} {pos : String} {after : Array Edge} {g : Option (Nat × Bool)}
theorem a7 {T T' : TypeId} {x y : Operand} {a b : List UInt8} (hx : evO ρ x = some (.val (.string (tx a)))) (hy : evO ρ y = some (.val (.string (tx b)))) (hb : a.length + b.length ≤ 9223372036854775807) : Pure P G ⟨dst, .binOp .add T x y T', ty, pos, after, g⟩ ρ h (.val (.string (tx (a ++ b)))) := by
 rw [← Xj]
 exact Zp hx hy hb
theorem Xf {T : TypeId} {x lo : Operand} {l : List UInt8} {m : Int} (hx : evO ρ x = some (.val (.string (tx l)))) (hlo : evO ρ lo = some (.int m)) (hT : P.underlying T = some .string) (h0 : 0 ≤ m) (h2 : m ≤ l.length) :
 Pure P G ⟨dst, .slice T x (some lo) none none, ty, pos, after, g⟩ ρ h (.val (.string (tx (l.drop m.toNat)))) :=
 AZ fun w I _ a hs => ⟨_, rfl, fun w' => by
  have e1 := AI (hs.ev x) (AA hx)
  have e2 := AI (hs.ev lo) (AA hlo)
  have hr := (run_sliceAt_string (P := P) (w := w') T (.string (tx l)) _ _ _ hT).trans (run_slice_string_from_if (P := P) w' T (tx l) .i64 m hT)
  rw [if_pos ⟨h0, h2⟩, show (tx l).extract m.toNat (tx l).size = tx (l.drop m.toNat) by
   refine (ByteArray.extract_mk l m.toNat _).trans ?_
   rw [List.take_of_length_le (by rw [List.length_drop]; exact Nat.le_refl _)]] at hr
  revert e1 hr
  generalize tx l = s
  generalize tx (l.drop m.toNat) = r
  intro e1 hr
  simp [execOp, e1, e2, hr]⟩
theorem Yv {T : TypeId} {x hi : Operand} {l : List UInt8} {n : Int} (hx : evO ρ x = some (.val (.string (tx l)))) (hhi : evO ρ hi = some (.int n)) (hT : P.underlying T = some .string) (h0 : 0 ≤ n) (h2 : n ≤ l.length) :
 Pure P G ⟨dst, .slice T x none (some hi) none, ty, pos, after, g⟩ ρ h (.val (.string (tx (l.take n.toNat)))) :=
 AZ fun w I _ a hs => ⟨_, rfl, fun w' => by
  have e1 := AI (hs.ev x) (AA hx)
  have e2 := AI (hs.ev hi) (AA hhi)
  have hr := (run_sliceAt_string (P := P) (w := w') T (.string (tx l)) _ _ _ hT).trans (run_slice_string_to_if (P := P) w' T (tx l) .i64 n hT)
  rw [if_pos ⟨h0, h2⟩, show (tx l).extract 0 n.toNat = tx (l.take n.toNat) from (ByteArray.extract_mk l 0 n.toNat).trans (by simp)] at hr
  revert e1 hr
  generalize tx l = s
  generalize tx (l.take n.toNat) = r
  intro e1 hr
  simp [execOp, e1, e2, hr]⟩
theorem EJ {T : TypeId} {x : Operand} {l : List UInt8} (hx : evO ρ x = some (.val (.string (tx l)))) (hT : P.underlying T = some .string) : Pure P G ⟨dst, .call { callee := .builtin .len, args := #[x], argTypes := #[T] }, ty, pos, after, g⟩ ρ h (.int (l.length : Nat)) :=
 Ei hx hT
end
end Go.Av
namespace Go.Proofs.YtajnpfgelpkijaaGreatDoor
open Go Go.Av
class ElC (P : Program) (t : TypeId) (z : outParam Value) (s b : outParam Nat) : Prop where h : El P t z s b
class FdC (P : Program) (t f : Nat) (o : outParam Nat) : Prop where h : Fld P t f o
class BlC (P : Program) (t : TypeId) : Prop where h : Bl2 P t
class HR (P : Program) (t : TypeId) (zs : outParam (List Value)) (pl : outParam (List (Nat × Nat))) : Prop where h : Bls P t zs pl
class EqC (P : Program) (t : TypeId) : Prop where h : Eq2 P t
class fu (P : Program) (t : TypeId) : Prop where h : Xd P t
theorem IU : El Tryz.prog 3 (.int .i64 0) 1 8 := by unfold El; kernel_rfl
instance : ElC Tryz.prog 3 (.int .i64 0) 1 8 := ⟨IU⟩
theorem aR : El Tryz.prog 4 (.bool false) 1 1 := by unfold El; kernel_rfl
instance : ElC Tryz.prog 4 (.bool false) 1 1 := ⟨aR⟩
theorem cb : El Tryz.prog 5 (.int .u8 0) 1 1 := by unfold El; kernel_rfl
instance : ElC Tryz.prog 5 (.int .u8 0) 1 1 := ⟨cb⟩
theorem EX : El Tryz.prog 9 (.string ByteArray.empty) 1 16 := by unfold El; kernel_rfl
instance : ElC Tryz.prog 9 (.string ByteArray.empty) 1 16 := ⟨EX⟩
theorem JV : El Tryz.prog 30 (.int .i64 0) 1 8 := by unfold El; kernel_rfl
instance : ElC Tryz.prog 30 (.int .i64 0) 1 8 := ⟨JV⟩
theorem cJ : El Tryz.prog 227 (.agg #[]) 0 0 := by unfold El; kernel_rfl
instance : ElC Tryz.prog 227 (.agg #[]) 0 0 := ⟨cJ⟩
theorem Xk : Bls Tryz.prog 227 [] [] := by unfold Bls; kernel_rfl
instance : HR Tryz.prog 227 [] [] := ⟨Xk⟩
theorem LB : El Tryz.prog 43 (.slice none 0 0) 1 24 := by unfold El; kernel_rfl
instance : ElC Tryz.prog 43 (.slice none 0 0) 1 24 := ⟨LB⟩
theorem ZP : El Tryz.prog 136 (.slice none 0 0) 1 24 := by unfold El; kernel_rfl
instance : ElC Tryz.prog 136 (.slice none 0 0) 1 24 := ⟨ZP⟩
theorem eW : El Tryz.prog 27 (.slice none 0 0) 1 24 := by unfold El; kernel_rfl
instance : ElC Tryz.prog 27 (.slice none 0 0) 1 24 := ⟨eW⟩
theorem Xn : El Tryz.prog 26 (.slice none 0 0) 1 24 := by unfold El; kernel_rfl
instance : ElC Tryz.prog 26 (.slice none 0 0) 1 24 := ⟨Xn⟩
theorem ZL : El Tryz.prog 84 (.slice none 0 0) 1 24 := by unfold El; kernel_rfl
instance : ElC Tryz.prog 84 (.slice none 0 0) 1 24 := ⟨ZL⟩
theorem ZS : El Tryz.prog 97 (.slice none 0 0) 1 24 := by unfold El; kernel_rfl
instance : ElC Tryz.prog 97 (.slice none 0 0) 1 24 := ⟨ZS⟩
theorem Zh : El Tryz.prog 96 (.slice none 0 0) 1 24 := by unfold El; kernel_rfl
instance : ElC Tryz.prog 96 (.slice none 0 0) 1 24 := ⟨Zh⟩
theorem VM : El Tryz.prog 176 (.slice none 0 0) 1 24 := by unfold El; kernel_rfl
instance : ElC Tryz.prog 176 (.slice none 0 0) 1 24 := ⟨VM⟩
theorem aj : El Tryz.prog 22 (.slice none 0 0) 1 24 := by unfold El; kernel_rfl
instance : ElC Tryz.prog 22 (.slice none 0 0) 1 24 := ⟨aj⟩
theorem YP : El Tryz.prog 23 (.slice none 0 0) 1 24 := by unfold El; kernel_rfl
instance : ElC Tryz.prog 23 (.slice none 0 0) 1 24 := ⟨YP⟩
theorem cA : El Tryz.prog 70 (.slice none 0 0) 1 24 := by unfold El; kernel_rfl
instance : ElC Tryz.prog 70 (.slice none 0 0) 1 24 := ⟨cA⟩
theorem gM : El Tryz.prog 53 (.agg #[.int .i64 0, .int .i64 0]) 2 16 := by unfold El; kernel_rfl
instance : ElC Tryz.prog 53 (.agg #[.int .i64 0, .int .i64 0]) 2 16 := ⟨gM⟩
theorem fX : Fld Tryz.prog 53 0 0 := by unfold Fld; kernel_rfl
instance : FdC Tryz.prog 53 0 0 := ⟨fX⟩
theorem dX : Fld Tryz.prog 53 1 1 := by unfold Fld; kernel_rfl
instance : FdC Tryz.prog 53 1 1 := ⟨dX⟩
theorem dN : Bls Tryz.prog 53 [.int .i64 0, .int .i64 0] [(0, 1), (1, 1)] := by unfold Bls; kernel_rfl
instance : HR Tryz.prog 53 [.int .i64 0, .int .i64 0] [(0, 1), (1, 1)] := ⟨dN⟩
theorem gO : Bl2 Tryz.prog 53 := by unfold Bl2; kernel_rfl
instance : BlC Tryz.prog 53 := ⟨gO⟩
theorem Th : Fld Tryz.prog 196 0 0 := by unfold Fld; kernel_rfl
instance : FdC Tryz.prog 196 0 0 := ⟨Th⟩
theorem Sa : Fld Tryz.prog 196 1 1 := by unfold Fld; kernel_rfl
instance : FdC Tryz.prog 196 1 1 := ⟨Sa⟩
theorem WG : Bl2 Tryz.prog 196 := by unfold Bl2; kernel_rfl
instance : BlC Tryz.prog 196 := ⟨WG⟩
theorem YT : Fld Tryz.prog 213 0 0 := by unfold Fld; kernel_rfl
instance : FdC Tryz.prog 213 0 0 := ⟨YT⟩
theorem YX : Fld Tryz.prog 213 1 1 := by unfold Fld; kernel_rfl
instance : FdC Tryz.prog 213 1 1 := ⟨YX⟩
theorem aH : Bl2 Tryz.prog 213 := by unfold Bl2; kernel_rfl
instance : BlC Tryz.prog 213 := ⟨aH⟩
theorem QP : Fld Tryz.prog 208 0 0 := by unfold Fld; kernel_rfl
instance : FdC Tryz.prog 208 0 0 := ⟨QP⟩
theorem Qf : Fld Tryz.prog 208 1 1 := by unfold Fld; kernel_rfl
instance : FdC Tryz.prog 208 1 1 := ⟨Qf⟩
theorem RL : Bls Tryz.prog 208 [.slice none 0 0, .slice none 0 0] [(0, 1), (1, 1)] := by unfold Bls; kernel_rfl
instance : HR Tryz.prog 208 [.slice none 0 0, .slice none 0 0] [(0, 1), (1, 1)] := ⟨RL⟩
theorem cL : El Tryz.prog 105 (.agg #[.int .i64 0, .int .i64 0]) 2 16 := by unfold El; kernel_rfl
instance : ElC Tryz.prog 105 (.agg #[.int .i64 0, .int .i64 0]) 2 16 := ⟨cL⟩
theorem YM : Fld Tryz.prog 105 0 0 := by unfold Fld; kernel_rfl
instance : FdC Tryz.prog 105 0 0 := ⟨YM⟩
theorem Y7 : Fld Tryz.prog 105 1 1 := by unfold Fld; kernel_rfl
instance : FdC Tryz.prog 105 1 1 := ⟨Y7⟩
theorem ae : Bl2 Tryz.prog 105 := by unfold Bl2; kernel_rfl
instance : BlC Tryz.prog 105 := ⟨ae⟩
theorem Y0 : El Tryz.prog 99 (.agg #[.slice none 0 0, .int .i64 0, .slice none 0 0, .slice none 0 0, .int .i64 0]) 5 88 := by unfold El; kernel_rfl
instance : ElC Tryz.prog 99 (.agg #[.slice none 0 0, .int .i64 0, .slice none 0 0, .slice none 0 0, .int .i64 0]) 5 88 := ⟨Y0⟩
theorem Wd : Fld Tryz.prog 99 0 0 := by unfold Fld; kernel_rfl
instance : FdC Tryz.prog 99 0 0 := ⟨Wd⟩
theorem Wc : Fld Tryz.prog 99 1 1 := by unfold Fld; kernel_rfl
instance : FdC Tryz.prog 99 1 1 := ⟨Wc⟩
theorem Vc : Fld Tryz.prog 99 2 2 := by unfold Fld; kernel_rfl
instance : FdC Tryz.prog 99 2 2 := ⟨Vc⟩
theorem XH : Fld Tryz.prog 99 3 3 := by unfold Fld; kernel_rfl
instance : FdC Tryz.prog 99 3 3 := ⟨XH⟩
theorem Vj : Fld Tryz.prog 99 4 4 := by unfold Fld; kernel_rfl
instance : FdC Tryz.prog 99 4 4 := ⟨Vj⟩
theorem Vz : Bls Tryz.prog 99 [.slice none 0 0, .int .i64 0, .slice none 0 0, .slice none 0 0, .int .i64 0] [(0, 1), (1, 1), (2, 1), (3, 1), (4, 1)] := by unfold Bls; kernel_rfl
instance : HR Tryz.prog 99 [.slice none 0 0, .int .i64 0, .slice none 0 0, .slice none 0 0, .int .i64 0] [(0, 1), (1, 1), (2, 1), (3, 1), (4, 1)] := ⟨Vz⟩
theorem Ts : Fld Tryz.prog 178 0 0 := by unfold Fld; kernel_rfl
instance : FdC Tryz.prog 178 0 0 := ⟨Ts⟩
theorem TG : Fld Tryz.prog 178 1 5 := by unfold Fld; kernel_rfl
instance : FdC Tryz.prog 178 1 5 := ⟨TG⟩
theorem SZ : Fld Tryz.prog 178 2 6 := by unfold Fld; kernel_rfl
instance : FdC Tryz.prog 178 2 6 := ⟨SZ⟩
theorem UN : Fld Tryz.prog 178 3 7 := by unfold Fld; kernel_rfl
instance : FdC Tryz.prog 178 3 7 := ⟨UN⟩
theorem Ss : Fld Tryz.prog 178 4 8 := by unfold Fld; kernel_rfl
instance : FdC Tryz.prog 178 4 8 := ⟨Ss⟩
theorem UM : Fld Tryz.prog 178 5 9 := by unfold Fld; kernel_rfl
instance : FdC Tryz.prog 178 5 9 := ⟨UM⟩
theorem Tz : Fld Tryz.prog 178 6 10 := by unfold Fld; kernel_rfl
instance : FdC Tryz.prog 178 6 10 := ⟨Tz⟩
theorem S9 : Bls Tryz.prog 178 [.slice none 0 0, .int .i64 0, .slice none 0 0, .slice none 0 0, .int .i64 0, .slice none 0 0, .slice none 0 0, .slice none 0 0, .slice none 0 0, .slice none 0 0, .int .i64 0] [(0, 5), (5, 1), (6, 1), (7, 1), (8, 1), (9, 1), (10, 1)] := by unfold Bls; kernel_rfl
instance : HR Tryz.prog 178 [.slice none 0 0, .int .i64 0, .slice none 0 0, .slice none 0 0, .int .i64 0, .slice none 0 0, .slice none 0 0, .slice none 0 0, .slice none 0 0, .slice none 0 0, .int .i64 0] [(0, 5), (5, 1), (6, 1), (7, 1), (8, 1), (9, 1), (10, 1)] := ⟨S9⟩
theorem YE : El Tryz.prog 215 (.agg #[.int .i64 0, .int .i64 0]) 2 16 := by unfold El; kernel_rfl
instance : ElC Tryz.prog 215 (.agg #[.int .i64 0, .int .i64 0]) 2 16 := ⟨YE⟩
theorem VF : Fld Tryz.prog 215 0 0 := by unfold Fld; kernel_rfl
instance : FdC Tryz.prog 215 0 0 := ⟨VF⟩
theorem VK : Fld Tryz.prog 215 1 1 := by unfold Fld; kernel_rfl
instance : FdC Tryz.prog 215 1 1 := ⟨VK⟩
theorem Wr : Bls Tryz.prog 215 [.int .i64 0, .int .i64 0] [(0, 1), (1, 1)] := by unfold Bls; kernel_rfl
instance : HR Tryz.prog 215 [.int .i64 0, .int .i64 0] [(0, 1), (1, 1)] := ⟨Wr⟩
theorem Xl : El Tryz.prog 45 (.agg #[.slice none 0 0, .slice none 0 0]) 2 48 := by unfold El; kernel_rfl
instance : ElC Tryz.prog 45 (.agg #[.slice none 0 0, .slice none 0 0]) 2 48 := ⟨Xl⟩
theorem Vu : Fld Tryz.prog 45 0 0 := by unfold Fld; kernel_rfl
instance : FdC Tryz.prog 45 0 0 := ⟨Vu⟩
theorem VI : Fld Tryz.prog 45 1 1 := by unfold Fld; kernel_rfl
instance : FdC Tryz.prog 45 1 1 := ⟨VI⟩
theorem VE : Bls Tryz.prog 45 [.slice none 0 0, .slice none 0 0] [(0, 1), (1, 1)] := by unfold Bls; kernel_rfl
instance : HR Tryz.prog 45 [.slice none 0 0, .slice none 0 0] [(0, 1), (1, 1)] := ⟨VE⟩
theorem XU : Bl2 Tryz.prog 45 := by unfold Bl2; kernel_rfl
instance : BlC Tryz.prog 45 := ⟨XU⟩
theorem Tx : El Tryz.prog 47 (.agg #[.bool false, .slice none 0 0, .slice none 0 0]) 3 56 := by unfold El; kernel_rfl
instance : ElC Tryz.prog 47 (.agg #[.bool false, .slice none 0 0, .slice none 0 0]) 3 56 := ⟨Tx⟩
theorem SM : Fld Tryz.prog 47 0 0 := by unfold Fld; kernel_rfl
instance : FdC Tryz.prog 47 0 0 := ⟨SM⟩
theorem Qr : Fld Tryz.prog 47 1 1 := by unfold Fld; kernel_rfl
instance : FdC Tryz.prog 47 1 1 := ⟨Qr⟩
theorem QW : Bls Tryz.prog 47 [.bool false, .slice none 0 0, .slice none 0 0] [(0, 1), (1, 2)] := by unfold Bls; kernel_rfl
instance : HR Tryz.prog 47 [.bool false, .slice none 0 0, .slice none 0 0] [(0, 1), (1, 2)] := ⟨QW⟩
theorem QY : El Tryz.prog 68 (.agg #[.string ByteArray.empty, .int .i64 0, .int .i64 0, .int .i64 0]) 4 40 := by unfold El; kernel_rfl
instance : ElC Tryz.prog 68 (.agg #[.string ByteArray.empty, .int .i64 0, .int .i64 0, .int .i64 0]) 4 40 := ⟨QY⟩
theorem Oi : Fld Tryz.prog 68 0 0 := by unfold Fld; kernel_rfl
instance : FdC Tryz.prog 68 0 0 := ⟨Oi⟩
theorem PZ : Fld Tryz.prog 68 1 1 := by unfold Fld; kernel_rfl
instance : FdC Tryz.prog 68 1 1 := ⟨PZ⟩
theorem Ox : Fld Tryz.prog 68 2 2 := by unfold Fld; kernel_rfl
instance : FdC Tryz.prog 68 2 2 := ⟨Ox⟩
theorem Ow : Fld Tryz.prog 68 3 3 := by unfold Fld; kernel_rfl
instance : FdC Tryz.prog 68 3 3 := ⟨Ow⟩
theorem O4 : Bls Tryz.prog 68 [.string ByteArray.empty, .int .i64 0, .int .i64 0, .int .i64 0] [(0, 1), (1, 1), (2, 1), (3, 1)] := by unfold Bls; kernel_rfl
instance : HR Tryz.prog 68 [.string ByteArray.empty, .int .i64 0, .int .i64 0, .int .i64 0] [(0, 1), (1, 1), (2, 1), (3, 1)] := ⟨O4⟩
theorem eP : El Tryz.prog 75 (.agg #[.int .i64 0, .slice none 0 0]) 2 32 := by unfold El; kernel_rfl
instance : ElC Tryz.prog 75 (.agg #[.int .i64 0, .slice none 0 0]) 2 32 := ⟨eP⟩
theorem bF : Fld Tryz.prog 75 0 0 := by unfold Fld; kernel_rfl
instance : FdC Tryz.prog 75 0 0 := ⟨bF⟩
theorem cK : Fld Tryz.prog 75 1 1 := by unfold Fld; kernel_rfl
instance : FdC Tryz.prog 75 1 1 := ⟨cK⟩
theorem dU : Bl2 Tryz.prog 75 := by unfold Bl2; kernel_rfl
instance : BlC Tryz.prog 75 := ⟨dU⟩
theorem bX : El Tryz.prog 72 (.agg #[.slice none 0 0, .slice none 0 0]) 2 48 := by unfold El; kernel_rfl
instance : ElC Tryz.prog 72 (.agg #[.slice none 0 0, .slice none 0 0]) 2 48 := ⟨bX⟩
theorem ZU : Fld Tryz.prog 72 0 0 := by unfold Fld; kernel_rfl
instance : FdC Tryz.prog 72 0 0 := ⟨ZU⟩
theorem X1 : Fld Tryz.prog 72 1 1 := by unfold Fld; kernel_rfl
instance : FdC Tryz.prog 72 1 1 := ⟨X1⟩
theorem XS : Bls Tryz.prog 72 [.slice none 0 0, .slice none 0 0] [(0, 1), (1, 1)] := by unfold Bls; kernel_rfl
instance : HR Tryz.prog 72 [.slice none 0 0, .slice none 0 0] [(0, 1), (1, 1)] := ⟨XS⟩
theorem ZY : El Tryz.prog 25 (.agg #[.slice none 0 0, .slice none 0 0]) 2 48 := by unfold El; kernel_rfl
instance : ElC Tryz.prog 25 (.agg #[.slice none 0 0, .slice none 0 0]) 2 48 := ⟨ZY⟩
theorem WR : Fld Tryz.prog 25 0 0 := by unfold Fld; kernel_rfl
instance : FdC Tryz.prog 25 0 0 := ⟨WR⟩
theorem WQ : Fld Tryz.prog 25 1 1 := by unfold Fld; kernel_rfl
instance : FdC Tryz.prog 25 1 1 := ⟨WQ⟩
theorem bJ : El Tryz.prog 29 (.agg #[.slice none 0 0, .slice none 0 0, .slice none 0 0, .slice none 0 0]) 4 96 := by unfold El; kernel_rfl
instance : ElC Tryz.prog 29 (.agg #[.slice none 0 0, .slice none 0 0, .slice none 0 0, .slice none 0 0]) 4 96 := ⟨bJ⟩
theorem YO : Fld Tryz.prog 29 0 0 := by unfold Fld; kernel_rfl
instance : FdC Tryz.prog 29 0 0 := ⟨YO⟩
theorem Xc : Fld Tryz.prog 29 1 2 := by unfold Fld; kernel_rfl
instance : FdC Tryz.prog 29 1 2 := ⟨Xc⟩
theorem Z2 : Fld Tryz.prog 29 2 3 := by unfold Fld; kernel_rfl
instance : FdC Tryz.prog 29 2 3 := ⟨Z2⟩
theorem Y6 : Bls Tryz.prog 29 [.slice none 0 0, .slice none 0 0, .slice none 0 0, .slice none 0 0] [(0, 2), (2, 1), (3, 1)] := by unfold Bls; kernel_rfl
instance : HR Tryz.prog 29 [.slice none 0 0, .slice none 0 0, .slice none 0 0, .slice none 0 0] [(0, 2), (2, 1), (3, 1)] := ⟨Y6⟩
theorem Xz : El Tryz.prog 145 (.agg #[.slice none 0 0, .int .i64 0, .slice none 0 0, .slice none 0 0, .int .i64 0]) 5 88 := by unfold El; kernel_rfl
instance : ElC Tryz.prog 145 (.agg #[.slice none 0 0, .int .i64 0, .slice none 0 0, .slice none 0 0, .int .i64 0]) 5 88 := ⟨Xz⟩
theorem Vb : Fld Tryz.prog 145 0 0 := by unfold Fld; kernel_rfl
instance : FdC Tryz.prog 145 0 0 := ⟨Vb⟩
theorem WK : Bls Tryz.prog 145 [.slice none 0 0, .int .i64 0, .slice none 0 0, .slice none 0 0, .int .i64 0] [(0, 5)] := by unfold Bls; kernel_rfl
instance : HR Tryz.prog 145 [.slice none 0 0, .int .i64 0, .slice none 0 0, .slice none 0 0, .int .i64 0] [(0, 5)] := ⟨WK⟩
theorem UJ : El Tryz.prog 86 (.agg #[.pointer none, .slice none 0 0]) 2 32 := by unfold El; kernel_rfl
instance : ElC Tryz.prog 86 (.agg #[.pointer none, .slice none 0 0]) 2 32 := ⟨UJ⟩
theorem Qk : Fld Tryz.prog 86 0 0 := by unfold Fld; kernel_rfl
instance : FdC Tryz.prog 86 0 0 := ⟨Qk⟩
theorem Q6 : Fld Tryz.prog 86 1 1 := by unfold Fld; kernel_rfl
instance : FdC Tryz.prog 86 1 1 := ⟨Q6⟩
theorem Z7 : Eq2 Tryz.prog 105 := ⟨by kernel_rfl, fun a b c d w => by
  have u3 := Tryz.underlying3
  rw [show (10000 : Nat) = 9999 + 1 from rfl, run_equalIn_agg w 9999 105 _ _ (by kernel_rfl) (by kernel_rfl)]
  simp only [Program.fieldsOf, Tryz.underlying105]
  go_simp
  by_cases h1 : a = c <;> by_cases h2 : b = d <;> simp [h1, h2]⟩
theorem Ws : Xd Tryz.prog 30 := ⟨_, Tryz.underlying30, fun _ h => by cases h⟩
instance : fu Tryz.prog 30 := ⟨Ws⟩
theorem mixed : Tryz.prog.follows .mixedOrders = true := by kernel_rfl
def LM : List D := [-1, 0, 0, 2, 2, 2, 2, 2, 2, 2, 1, 0, 0, 0, 1, 2, 2, 1, 1].map fun n => D.i .i64 n
def GP0 : List (Nat × List D) := [(7, LM)]
def Jp : List D := Go.Sp.Gu.map fun l => D.s (Go.Sp.tx l)
def bZ : List D := [.sm fun b o _ => b = 4 ∧ ∃ t fr, o = .cells (Lib.pow10Tab.map fun n => Value.int .u64 n).toArray t fr]
def GP1 : List (Nat × List D) := [(0, Jp), (4, bZ)]
def Uq (v : Value) : Prop := ∃ m : Int, v = .int .i64 m
def isIf (v : Value) : Prop := v = .nilIface ∨ ∃ te pe, v = .iface te pe
def GP2 : List (Nat × List D) := [(1, [.sm fun _ _ v => Uq v]), (2, [.sm fun _ _ v => isIf v]), (3, [.sm fun _ _ v => isIf v])]
def GP : List (Nat × List D) := GP0 ++ (GP1 ++ GP2)
theorem dV : (7, LM) ∈ GP := by simp [GP, GP0]
theorem Fa : (0, Jp) ∈ GP := by simp [GP, GP1]
theorem eQ : (4, bZ) ∈ GP := by simp [GP, GP1]
theorem fC : (1, [.sm fun _ _ v => Uq v]) ∈ GP := by simp [GP, GP2]
theorem eK : (2, [.sm fun _ _ v => isIf v]) ∈ GP := by simp [GP, GP2]
theorem dp : (3, [.sm fun _ _ v => isIf v]) ∈ GP := by simp [GP, GP2]
end Go.Proofs.YtajnpfgelpkijaaGreatDoor
namespace Go.Av
open Go
class MC : Prop
class U6 : Prop
class Jr (n : outParam Nat) : Prop
theorem useA [MC] {p : Prop} (h : p) : p := h
theorem useH [U6] {p : Prop} (h : p) : p := h
section
variable {k : Kx} {Q : Exit → Env → H → Prop} {ρ : Env} {h : H}
theorem fB {n : Nat} [Jr n] {id : Nat} {l : List Oper} (_hA : Nat.ble n (l.countP fun o => effB o.op) = true) (hj : Stop (J k (.region id l.toArray true) Q ρ h)) : J k (.region id l.toArray true) Q ρ h := hj.get
end
theorem gL {p : Prop} {i : Decidable p} (h : @decide p i = true) : p := of_decide_eq_true h
theorem gD {p : Prop} {i : Decidable p} (h : @decide p i = false) : ¬ p := of_decide_eq_false h
theorem Ad {p : Prop} (h : p := by (first | omega | (simp only [List.length_map, List.length_range, List.length_append, List.length_cons, List.length_nil, List.length_take, List.length_drop, List.length_set, List.length_replicate]; omega))) : p := h
theorem B6 {p : Prop} (h : p := by ((repeat (first | with_reducible exact Upd.here | with_reducible apply Upd.there)); first | done | fail)) : p := h
theorem BT {p : Prop} (h : p := by (intro q_; (repeat (first | with_reducible exact Upd.here | with_reducible apply Upd.there)); first | done | fail)) : p := h
theorem gG {p : Prop} (h : p := by ((repeat (first | exact Ha.nil | apply Ha.put | apply Ha.skip)); first | done | fail)) : p := h
theorem Ai {p : Prop} (h : p := by ((repeat (first | exact List.mem_cons_self | apply List.mem_cons_of_mem)); first | done | fail)) : p := h
theorem H6 {p : Prop} (h : p := by ((repeat (first | exact List.nil_sublist _ | (with_reducible apply List.Sublist.cons_cons) | apply List.Sublist.cons)); first | done | fail)) : p := h
theorem AB {p : Prop} (h : p := by ((repeat (first | exact Take.nil | ((with_reducible apply Take.cons); (focus ((repeat (first | exact Sel.here | with_reducible apply Sel.there)); done))))); first | done | fail)) : p := h
theorem leD {p : Prop} (h : p := by
 repeat (first
  | exact Env.le_nil _
  | refine Env.le_cons (AV.le_refl _) ?_
  | refine Env.le_cons (AV.le_int rfl (by first | rfl | omega | (dsimp only; omega))) ?_)
 first | done | fail) : p := h
theorem cx {c q : Prop} (hc : c) (h : c → q := by intro hc; first | contradiction | (exfalso; omega)) : q := h hc
theorem cx1 {c q : Prop} (hc : c) (h : c → q := by intro hc; first | contradiction | (exfalso; omega) | (exfalso; exact absurd (gL hc) (by assumption)) | (exfalso; exact gD hc (by assumption))) : q := h hc
theorem Hc {p : Prop} (h : p := by
 (first
  | (first
    | ((with_reducible apply U0); rfl)
    | ((with_reducible apply Nt); rfl)
    | ((with_reducible apply Pe); rfl; rfl)
    | ((with_reducible apply XV); rfl; rfl)
    | ((with_reducible apply aD); rfl; rfl)
    | ((with_reducible apply XO); rfl; rfl)
    | ((with_reducible apply NA); rfl; rfl; rfl)
    | ((with_reducible apply NJ); rfl; rfl; rfl)
    | ((with_reducible apply Xb); rfl; rfl)
    )
  | (first
    | ((with_reducible apply XL); rfl; rfl)
    | ((with_reducible apply YW); rfl; rfl)
    | ((with_reducible apply ZQ); rfl; rfl; (focus (first | (unfold Aj; omega) | (unfold Aj; simp only [Int.reduceToNat, Int.reducePow]; omega) | assumption)))
    | ((with_reducible apply ZB); rfl; rfl; (focus (first | (unfold Aj; omega) | (unfold Aj; simp only [Int.reduceToNat, Int.reducePow]; omega) | assumption)))
    | ((with_reducible apply Y8); rfl; rfl; (focus (first | (unfold Aj; omega) | (unfold Aj; simp only [Int.reduceToNat, Int.reducePow]; omega) | assumption)))
    | ((with_reducible apply Yt); rfl; rfl; omega; omega; omega)
    | ((with_reducible apply ZR); rfl; rfl; omega; omega)
    | ((with_reducible apply YZ); rfl; rfl; omega; omega; (focus (first | (unfold Aj; omega) | (unfold Aj; simp only [Int.reduceToNat, Int.reducePow]; omega) | assumption)))
    | ((with_reducible apply Xw); rfl; rfl; omega; omega)
    )
  | (first
    | ((with_reducible apply pure_shl_u); rfl; rfl; omega; omega; (focus (first | (unfold Aj; omega) | (unfold Aj; simp only [Int.reduceToNat, Int.reducePow]; omega) | assumption)))
    | ((with_reducible apply pure_shr_u); rfl; rfl; omega; omega)
    | ((with_reducible apply pure_and1); rfl; rfl; omega; omega)
    | ((with_reducible apply pure_and); rfl; rfl)
    | ((with_reducible apply pure_or); rfl; rfl)
    | ((with_reducible apply Zo); rfl; (focus (first | (unfold Aj; omega) | (unfold Aj; simp only [Int.reduceToNat, Int.reducePow]; omega) | assumption)))
    | ((with_reducible apply Kt); rfl; rfl)
    | ((with_reducible apply Ks); rfl; rfl)
    | ((with_reducible apply Ol); rfl; rfl)
    )
  | (first
    | ((with_reducible apply M9); rfl; rfl)
    | ((with_reducible apply aG); rfl)
    | ((with_reducible apply dO); rfl; rfl)
    | ((with_reducible apply Rx); rfl; rfl)
    | ((with_reducible apply pu_max); rfl; rfl)
    | ((with_reducible apply fO); rfl; rfl)
    | ((with_reducible apply pu_slice_to3); rfl; rfl; rfl; rfl; (focus (with_reducible exact ElC.h)); omega; (focus exact Ad))
    | ((with_reducible apply Rn); rfl; (focus rfl); rfl; (focus (with_reducible exact ElC.h)); (focus exact Ad))
    | ((with_reducible apply Lb); rfl; rfl; rfl; (focus (with_reducible exact ElC.h)); (focus exact Ad))
    | ((with_reducible apply Q7); rfl; rfl; rfl; (focus (with_reducible exact ElC.h)); omega; (focus exact Ad))
    | ((with_reducible apply ZW); rfl; rfl)
    )
  | (first
    | ((with_reducible apply ZV); rfl; rfl; rfl)
    | ((with_reducible apply pu_slice); rfl; rfl; rfl; rfl; (focus (with_reducible exact ElC.h)); omega; omega; (focus exact Ad))
    | ((with_reducible apply NG); rfl; rfl; rfl; (focus (with_reducible exact ElC.h)); omega; (focus exact Ad))
    | ((with_reducible apply Qc); rfl; rfl; rfl; (focus (with_reducible exact ElC.h)); omega; (focus exact Ad))
    | ((with_reducible apply RZ); rfl; rfl; rfl; (focus (with_reducible exact ElC.h)); omega)
    | ((with_reducible apply pu_index_ci1); rfl; rfl; rfl; (focus (with_reducible exact ElC.h)); omega; omega)
    | ((with_reducible apply HI); rfl; rfl; (focus (with_reducible exact ElC.h)); rfl; omega; omega)
    | ((with_reducible apply Jl); rfl; rfl; rfl; (focus (with_reducible exact ElC.h)); (focus exact Ai); (focus exact Ad))
    | ((with_reducible apply NN); rfl; rfl; rfl; (focus (with_reducible exact ElC.h)); (focus exact Ai); omega; (focus exact Ad))
    | ((with_reducible apply LV); (focus (with_reducible exact FdC.h)); rfl)
    | ((with_reducible apply Nk); rfl; rfl)
    | ((with_reducible apply RP); rfl; rfl; (focus (with_reducible exact ElC.h)); rfl)
    | ((with_reducible apply pu_neq2); (focus (with_reducible exact EqC.h)); rfl; rfl)
    )
  | (first
    | ((with_reducible apply RD); rfl)
    | ((with_reducible apply pu_nilCheck_pd); rfl)
    | ((with_reducible apply MN); (focus (with_reducible exact FdC.h)); rfl)
    | ((with_reducible apply Qg); rfl; rfl; (focus exact Ai); (focus exact Ad))
    | ((with_reducible apply ID); rfl; rfl; (focus exact Ai); (first | rfl | assumption | ((apply set_ne_get); (focus assumption); (focus (first | omega | exact Nat.ne_of_lt (Nat.lt_succ_self _))))))
    | ((with_reducible apply PJ); rfl; rfl; (focus exact Ai); (focus exact fun _ => rfl); rfl; (focus exact Ad))
    | ((with_reducible apply Jj); rfl; rfl; (focus exact Ai); (focus exact fun _ => rfl); rfl; (focus exact Ad))
    | ((with_reducible apply pu_field_row); (focus (with_reducible exact FdC.h)); rfl)
    | ((with_reducible apply JK); rfl; rfl; (focus (with_reducible exact ElC.h)); (focus exact Ai); rfl)
    | ((with_reducible apply Z3); (focus (with_reducible exact fu.h)); rfl)
    | ((with_reducible apply Rj); (focus (with_reducible exact BlC.h)); rfl; rfl; rfl; rfl)
    | ((with_reducible apply X6); (focus (with_reducible exact HR.h)); rfl; rfl; rfl)
    | ((with_reducible apply pu_byte_int); rfl; rfl; rfl)
    )
  | (first
    | ((with_reducible apply pu_int_byte); rfl; rfl; rfl)
    | ((with_reducible apply pu_int_int); rfl; rfl; rfl; (focus (first | (unfold Aj; omega) | (unfold Aj; simp only [Int.reduceToNat, Int.reducePow]; omega) | assumption)))
    | ((with_reducible apply pu_bytes_string); rfl; rfl; rfl; rfl)
    | ((with_reducible apply TQ); rfl; rfl; (focus exact Ai))
    | ((with_reducible apply Oh); rfl; rfl; rfl; (focus (with_reducible exact ElC.h)); (focus exact Ai); omega; (focus exact Ad))
    | ((with_reducible apply pu_index_cut); rfl; rfl; rfl; (focus (with_reducible exact ElC.h)); (focus exact Ai); omega; omega; (focus exact Ad))
    | ((with_reducible apply UE); rfl; rfl; (focus exact Ai))
    | ((with_reducible apply pu_len_cut); rfl; rfl; (focus exact Ai))
    | ((with_reducible apply PG); rfl; rfl)
    | ((with_reducible apply Pv); rfl; rfl; rfl; (focus (with_reducible exact ElC.h)); (focus exact Ai); omega; (focus exact Ad))
    | ((with_reducible apply OU); rfl; rfl; rfl; (focus (with_reducible exact ElC.h)); (focus exact Ai); (focus exact Ad))
    | ((with_reducible apply SV); rfl; exact IU; exact dV; rfl; omega; omega)
    | ((with_reducible apply O1); rfl; rfl; rfl; (focus (with_reducible exact ElC.h)); omega; omega)
    )
  | (first
    | ((with_reducible apply a7); rfl; rfl; (focus exact Ad))
    | ((with_reducible apply pu_subT); rfl; rfl; rfl; rfl; omega; omega; (focus exact Ad))
    | ((with_reducible apply Xf); rfl; rfl; rfl; omega; (focus exact Ad))
    | ((with_reducible apply Yv); rfl; rfl; rfl; omega; (focus exact Ad))
    )
  )) : p := h
theorem ca {P C p q : Prop} (k : P) (c : C) (hp : p) (h : P → C → p → q := by
 intro k_ c_
 apply cmp; (focus (first
  | ((with_reducible apply Ez); (focus rfl); (focus exact k_); (focus exact c_); (focus rfl))
  | ((with_reducible apply je_call0); (focus rfl); (focus (decide +kernel)); (focus rfl); (focus exact k_); (focus exact c_); (focus rfl))))
 exact fun h => h) : q := h k c hp
theorem cae {P C p q : Prop} (k : P) (c : C) (hp : p) (h : P → C → p → q := by
 intro k_ c_
 apply cmp; (focus (first
  | ((with_reducible apply da); (focus rfl); (focus exact k_); (focus exact c_); (focus rfl))
  | ((with_reducible apply je_callE); (focus rfl); (focus (decide +kernel)); (focus rfl); (focus exact k_); (focus exact c_); (focus rfl))))
 exact fun h => h) : q := h k c hp
theorem caq {P C p q : Prop} (k : P) (c : C) (hp : p) (h : P → C → p → q := by
 intro k_ c_
 apply cmp; (focus ((with_reducible apply fg); (focus rfl); (focus exact k_); (focus exact c_); (focus rfl)))
 exact fun h => h) : q := h k c hp
theorem cag {P C p q : Prop} (k : P) (c : C) (hp : p) (h : P → C → p → q := by
 intro k_ c_
 apply cmp; (focus ((with_reducible apply Au); (focus rfl); (focus exact k_); (focus exact c_); (focus ((repeat (first | with_reducible exact Take.nil | ((with_reducible apply Take.cons); (focus ((repeat (first | with_reducible exact Sel.here | with_reducible apply Sel.there)); done))))); done)); (focus rfl); (focus (intro v_; (repeat (first | exact App.nil | apply App.cons)); done))))
 exact fun h => h) : q := h k c hp
theorem cgv {P C p q : Prop} (k : P) (c : C) (hp : p) (h : P → C → p → q := by
 intro k_ c_
 apply cmp; (focus ((with_reducible apply Cq); (focus rfl); (focus rfl); (focus exact k_); (focus exact c_); (focus ((repeat (first | with_reducible exact Take.nil | ((with_reducible apply Take.cons); (focus ((repeat (first | with_reducible exact Sel.here | with_reducible apply Sel.there)); done))))); done)); (focus rfl); (focus (intro v_; (repeat (first | exact App.nil | apply App.cons)); done))))
 exact fun h => h) : q := h k c hp
end Go.Av
namespace Go.Proofs.YtajnpfgelpkijaaGreatDoor
open Go Go.Av

theorem Yd {p q : Prop} (h : p → q := by
 apply cmp; (focus (first
  | ((with_reducible apply gF); (focus rfl); (focus rfl); (focus rfl))
  | ((with_reducible apply Xu); (focus (with_reducible exact ElC.h)); (focus rfl); (focus rfl))
  | ((with_reducible apply bA); (focus (with_reducible exact ElC.h)); (focus rfl))
  | ((with_reducible apply Zf); (focus rfl); (focus rfl); (focus (with_reducible exact ElC.h)); (focus omega); (focus omega); (focus rfl))
  | ((with_reducible apply cB); (focus rfl); (focus rfl); (focus (with_reducible exact ElC.h)); (focus omega); (focus omega); (focus rfl))
  | ((with_reducible apply iE); (focus rfl); (focus exact B6); (focus rfl); (focus rfl); (focus (with_reducible exact ElC.h)); (focus exact Ad))
  | ((with_reducible apply fY); (focus rfl); (focus rfl); (focus rfl); (focus (with_reducible exact ElC.h)); (focus rfl); (focus exact B6); (focus rfl))
  | ((with_reducible apply gy); (focus rfl); (focus rfl); (focus rfl); (focus (with_reducible exact ElC.h)); (focus exact B6); (focus exact gG))
  | ((with_reducible apply js_us); (focus rfl); (focus rfl); (focus rfl); (focus (with_reducible exact ElC.h)); (focus rfl); (focus exact B6); (focus exact gG))
  ))
 exact fun h => h) : p → q := h
theorem BX {p q : Prop} (hp : p) (h : p → q := by exact Yd) : q := h hp
theorem Tn {p q : Prop} (h : p → q := by
 repeat1' (apply cmp; (focus (first
  | ((with_reducible apply fB); (focus (decide +kernel)))
  | ((refine useA ?_); (first
   | ((with_reducible apply Bm); (focus rfl); (focus rfl); (focus (with_reducible exact ElC.h)); (focus exact BT); (focus rfl); (focus rfl); (focus rfl); (focus rfl); (focus exact Ad); (focus exact Ad))
   | ((with_reducible apply gN); (focus rfl); (focus rfl); (focus (with_reducible exact ElC.h)); (focus exact BT); (focus rfl); (focus rfl); (focus rfl); (focus rfl); (focus exact Ad); (focus exact Ad))
   | exact Yd
   | ((with_reducible apply ZO); (focus rfl); (focus rfl); (focus (with_reducible exact ElC.h)); (focus exact B6); (focus exact fun _ => rfl); (focus rfl); (focus exact Ad))
   | ((with_reducible apply cg); (focus rfl); (focus rfl); (focus (with_reducible exact ElC.h)); (focus rfl); (focus exact B6); (focus rfl); (focus exact fun _ => rfl); (focus exact Ad))
   | ((with_reducible apply eI); (focus rfl); (focus rfl); (focus rfl); (focus (with_reducible exact ElC.h)); (focus exact BT); (focus exact fun _ => rfl); (focus omega); (focus exact Ad); (focus rfl))
   ))
  | ((refine useH ?_); (first
   | (first
    | ((with_reducible apply SU); (focus exact mixed); (focus rfl); (focus ((repeat ((with_reducible apply Hd.cons); (focus rfl))); exact Hd.nil)); (focus ((repeat (with_reducible apply Aa)); exact len_nil)); (focus (decide +kernel)))
    | ((with_reducible apply bD); (focus (decide +kernel)); (focus ((repeat (with_reducible apply App.cons)); exact App.nil)))
    | ((with_reducible apply ab); (focus rfl); (focus (decide +kernel)); (focus exact Hc); (focus rfl))
    | ((with_reducible apply gJ); (focus rfl); (focus rfl); (focus rfl); (focus rfl); (focus rfl); (focus (decide +kernel)); (focus exact Hc); (focus rfl))
    | ((with_reducible apply gX); (focus rfl); (focus rfl); (focus rfl); (focus rfl); (focus rfl); (focus (decide +kernel)); (focus rfl))
    | ((with_reducible apply jh_gu); (focus rfl); (focus rfl); (focus rfl); (focus rfl); (focus (decide +kernel)); (focus rfl))
    | ((with_reducible apply ZH); (focus rfl); (focus rfl); (focus rfl); (focus rfl); (focus (decide +kernel)))
    | with_reducible apply b8
    | with_reducible apply aY
    | ((with_reducible apply dw); (focus (decide +kernel)); (focus (decide +kernel)))
    | with_reducible exact cf
    | ((with_reducible apply fA); (focus (decide +kernel)))
    | ((with_reducible apply cZ); (focus rfl))
    | with_reducible apply dZ
    )
   ))
  | (first
    | (first
     | with_reducible exact L3
     | ((with_reducible apply jp); (focus exact Hc); (focus rfl))
     | ((with_reducible apply jgt); (focus rfl); (focus rfl); (focus rfl); (focus rfl); (focus rfl))
     | ((with_reducible apply jgf); (focus rfl); (focus rfl); (focus rfl); (focus rfl); (focus rfl))
     | ((with_reducible apply jgu); (focus rfl); (focus rfl); (focus rfl); (focus rfl))
     | ((with_reducible apply jqu); (focus rfl); (focus rfl); (focus rfl); (focus rfl))
     | with_reducible exact Cw
     | with_reducible exact dz
     | with_reducible exact az
     )
    | (first
     | with_reducible exact XK
     | with_reducible exact WJ
     | with_reducible exact dM
     | with_reducible exact cO
     | ((with_reducible apply Zx); (focus decide))
     | with_reducible exact ZM
     | ((with_reducible apply jpan); (focus rfl))
     | with_reducible exact FF
     | with_reducible exact I5
     )
    | (first
     | ((with_reducible apply J_region_anyA); (focus exact mixed); (focus rfl); (focus ((repeat (with_reducible apply Aa)); exact len_nil)); (focus (decide +kernel)))
     )
    | (first
     | ((with_reducible apply (J_region_mix 0)); (focus exact mixed); (focus rfl); (focus ((repeat (with_reducible apply Aa)); exact len_nil)); (focus (decide +kernel)); (focus ((repeat (with_reducible apply Mix.cons)); exact Mix.nil)))
     | ((with_reducible apply (J_region_mix 1)); (focus exact mixed); (focus rfl); (focus ((repeat (with_reducible apply Aa)); exact len_nil)); (focus (decide +kernel)); (focus ((repeat (with_reducible apply Mix.cons)); exact Mix.nil)))
     | ((with_reducible apply (J_region_mix 2)); (focus exact mixed); (focus rfl); (focus ((repeat (with_reducible apply Aa)); exact len_nil)); (focus (decide +kernel)); (focus ((repeat (with_reducible apply Mix.cons)); exact Mix.nil)))
     | ((with_reducible apply (J_region_mix 3)); (focus exact mixed); (focus rfl); (focus ((repeat (with_reducible apply Aa)); exact len_nil)); (focus (decide +kernel)); (focus ((repeat (with_reducible apply Mix.cons)); exact Mix.nil)))
     | ((with_reducible apply (J_region_mix 4)); (focus exact mixed); (focus rfl); (focus ((repeat (with_reducible apply Aa)); exact len_nil)); (focus (decide +kernel)); (focus ((repeat (with_reducible apply Mix.cons)); exact Mix.nil)))
     | ((with_reducible apply (J_region_mix 5)); (focus exact mixed); (focus rfl); (focus ((repeat (with_reducible apply Aa)); exact len_nil)); (focus (decide +kernel)); (focus ((repeat (with_reducible apply Mix.cons)); exact Mix.nil)))
     | ((with_reducible apply (J_region_mix 6)); (focus exact mixed); (focus rfl); (focus ((repeat (with_reducible apply Aa)); exact len_nil)); (focus (decide +kernel)); (focus ((repeat (with_reducible apply Mix.cons)); exact Mix.nil)))
     | ((with_reducible apply (J_region_mix 7)); (focus exact mixed); (focus rfl); (focus ((repeat (with_reducible apply Aa)); exact len_nil)); (focus (decide +kernel)); (focus ((repeat (with_reducible apply Mix.cons)); exact Mix.nil)))
     | ((with_reducible apply (J_region_mix 8)); (focus exact mixed); (focus rfl); (focus ((repeat (with_reducible apply Aa)); exact len_nil)); (focus (decide +kernel)); (focus ((repeat (with_reducible apply Mix.cons)); exact Mix.nil)))
     )
    | (first
     | with_reducible exact I6
     | ((with_reducible apply FN); (focus exact mixed); (focus ((repeat (with_reducible apply Aa)); exact len_nil)); (focus (decide +kernel)))
     | ((with_reducible apply (Bs 2)); (focus exact mixed); (focus ((repeat (with_reducible apply Aa)); exact len_nil)); (focus (decide +kernel)))
     | ((with_reducible apply (Bs 3)); (focus exact mixed); (focus ((repeat (with_reducible apply Aa)); exact len_nil)); (focus (decide +kernel)))
     | ((with_reducible apply (Bs 4)); (focus exact mixed); (focus ((repeat (with_reducible apply Aa)); exact len_nil)); (focus (decide +kernel)))
     | ((with_reducible apply (Bs 5)); (focus exact mixed); (focus ((repeat (with_reducible apply Aa)); exact len_nil)); (focus (decide +kernel)))
     | ((with_reducible apply (Bs 6)); (focus exact mixed); (focus ((repeat (with_reducible apply Aa)); exact len_nil)); (focus (decide +kernel)))
     | ((with_reducible apply (Bs 7)); (focus exact mixed); (focus ((repeat (with_reducible apply Aa)); exact len_nil)); (focus (decide +kernel)))
     | ((with_reducible apply J_region_draw); (focus exact mixed); (focus (decide +kernel)); (focus ((repeat (with_reducible apply Aa)); exact len_nil)))
     | with_reducible exact fV
     | ((with_reducible apply jqp); (focus exact Hc); (focus rfl))
     | ((with_reducible apply jqt); (focus rfl); (focus rfl); (focus rfl); (focus rfl); (focus rfl))
     | ((with_reducible apply jqf); (focus rfl); (focus rfl); (focus rfl); (focus rfl); (focus rfl))
     | (first
      | ((with_reducible apply Re); (focus rfl); (focus rfl); (focus (with_reducible exact ElC.h)); (focus rfl); (focus rfl))
      | ((with_reducible apply Sm); (focus rfl); (focus rfl); (focus (with_reducible exact ElC.h)); (focus rfl); (focus rfl))
      | ((with_reducible apply jbuild_bool); (focus rfl); (focus rfl); (focus (with_reducible exact ElC.h)); (focus rfl); (focus rfl))
      | ((with_reducible apply Ry); (focus rfl); (focus rfl); (focus (with_reducible exact ElC.h)); (focus rfl); (focus rfl))
      | ((with_reducible apply Ar); (focus rfl); (focus rfl); (focus (with_reducible exact ElC.h)); (focus rfl); (focus rfl); (focus rfl); (focus rfl); (focus rfl))
      | ((with_reducible apply TZ); (focus rfl); (focus rfl); (focus (with_reducible exact ElC.h)); (focus rfl); (focus rfl)))
     | ((with_reducible apply japp); (focus rfl); (focus rfl); (focus rfl); (focus (with_reducible exact ElC.h)); (focus rfl); (focus rfl); (focus rfl); (focus exact Ad); (focus exact Ad))
     )
    | (first
     | ((with_reducible apply japp_copy); (focus rfl); (focus rfl); (focus rfl); (focus (with_reducible exact ElC.h)); (focus rfl); (focus rfl); (focus rfl); (focus exact fun _ => rfl); (focus exact Ad); (focus exact Ad))
     | with_reducible exact dr
     | with_reducible exact iC
     | with_reducible exact db
     | ((with_reducible apply iA); (focus rfl))
     | with_reducible exact ay
     | with_reducible exact YU
     | with_reducible exact bC
     | with_reducible exact dL
     )
    | (first
     | with_reducible exact WT
     )
    | (first
     | ((with_reducible apply je_q); (focus rfl); (focus (decide +kernel)); (focus exact Hc); (focus rfl))
     | ((with_reducible apply je_qy); (focus rfl); (focus rfl); (focus rfl); (focus rfl); (focus rfl); (focus (decide +kernel)); (focus exact Hc); (focus rfl))
     | ((with_reducible apply je_gt); (focus rfl); (focus rfl); (focus rfl); (focus rfl); (focus rfl); (focus (decide +kernel)); (focus rfl))
     | ((with_reducible apply je_gf); (focus rfl); (focus rfl); (focus rfl); (focus rfl); (focus rfl); (focus (decide +kernel)); (focus rfl))
     | ((with_reducible apply je_gu); (focus rfl); (focus rfl); (focus rfl); (focus rfl); (focus (decide +kernel)); (focus rfl))
     | ((with_reducible apply je_done); (focus (decide +kernel)))
     | ((with_reducible apply je_swap); (focus ((repeat (with_reducible apply Rv.cons)); exact Rv.nil)))
     | ((with_reducible apply je_hold); (focus (decide +kernel)))
     )
    | (first
     | ((with_reducible apply Jg); (focus exact mixed); (focus rfl); (focus ((repeat (with_reducible apply Aa)); exact len_nil)); (focus (decide +kernel)))
     | ((with_reducible apply YA); (focus (decide +kernel)))
     | ((with_reducible apply Q0); (focus rfl); (focus (decide +kernel)); (focus rfl); (focus rfl))
     | ((with_reducible apply jxp_assign); (focus rfl); (focus (decide +kernel)); (focus rfl); (focus rfl))
     | ((with_reducible apply jxp_extract); (focus rfl); (focus (decide +kernel)); (focus rfl); (focus rfl); (focus rfl))
     | with_reducible apply QF
     | ((with_reducible apply cS); (focus (decide +kernel)); (focus rfl))
     | with_reducible exact af
     | ((with_reducible apply dR); (focus (decide +kernel)))
     | ((with_reducible apply Yg); (focus rfl))
     | with_reducible apply jxp_nil
     | with_reducible apply gT
     )
    ))))
 exact fun h => h) : p → q := h
theorem stp {p q : Prop} (hp : p) (h : p → q := by exact Tn) : q := h hp
theorem AM {p q : Prop} (hp : p) (h : p → q := by haveI fA_ : MC := ⟨⟩; exact Tn) : q := h hp
theorem AJ {p q : Prop} (hp : p) (h : p → q := by haveI fA_ : MC := ⟨⟩; haveI fH_ : U6 := ⟨⟩; exact Tn) : q := h hp
theorem Xm {p q : Prop} (hp : p) (h : p → q := by haveI fA_ : MC := ⟨⟩; haveI fH_ : U6 := ⟨⟩; haveI fS_ : Jr 1 := ⟨⟩; exact Tn) : q := h hp
theorem Gi {p q : Prop} (hp : p) (h : p → q := by haveI fA_ : MC := ⟨⟩; haveI fH_ : U6 := ⟨⟩; haveI fS_ : Jr 2 := ⟨⟩; exact Tn) : q := h hp
theorem stpB {p q : Prop} (hp : p) (h : p → q := by haveI fA_ : MC := ⟨⟩; haveI fS_ : Jr 2 := ⟨⟩; exact Tn) : q := h hp
theorem cM {p q : Prop} (hp : p) (h : p → q := by haveI fA_ : MC := ⟨⟩; haveI fS_ : Jr 0 := ⟨⟩; exact Tn) : q := h hp
theorem AS {p : Prop} (h : p := by (repeat (first | with_reducible exact Take.nil | ((with_reducible apply Take.cons); (focus ((repeat (first | with_reducible exact Sel.here | with_reducible apply Sel.there)); done))))); first | done | fail) : p := h
theorem A8 {p : Prop} (h : p := by intro v_; (repeat (first | exact App.nil | apply App.cons)); first | done | fail) : p := h
open Go Go.Av Go.Sp

theorem HA : Cal Tryz.prog 155 := Cal.of Tryz.func155 (by kernel_rfl) (by kernel_rfl)
theorem ES : Cal Tryz.prog 159 := Cal.of Tryz.func159 (by kernel_rfl) (by kernel_rfl)
theorem OZ (G : List (Nat × List D)) (x : Int) : ACr Tryz.prog G 155 [.int x] (.tup [.int (partsOf x).1, .int (partsOf x).2]) := by
 refine Dd (ts := [2, 3]) 26 Tryz.func155 rfl rfl rfl (by simp) fun W I => ?_
 repeat' (first
  | refine cag Ee (String GP b u q s hpos hb3) ?_
  | exact True.intro
  | refine stp ?_
  | refine two ?_ ?_
  | (refine imp fun hc => ?_) <;> try exact cx hc
  | refine all fun v_ => ?_)
 all_goals ((with_reducible apply rq2); rfl; rfl; rfl)
 all_goals (refine AD ?_; simp [partsOf, *])

theorem Wo (x : Int) (h1 : ¬ x < 1) (h2 : ¬ 18 < x) : LM[x.toNat]? = some (.i .i64 (partsOf x).1) ∧ (partsOf x).2 = 0 := by
 have : x = 1 ∨ x = 2 ∨ x = 3 ∨ x = 4 ∨ x = 5 ∨ x = 6 ∨ x = 7 ∨ x = 8 ∨ x = 9 ∨ x = 10 ∨ x = 11 ∨ x = 12 ∨ x = 13 ∨ x = 14 ∨ x = 15 ∨ x = 16 ∨ x = 17 ∨ x = 18 := by omega
 rcases this with h | h | h | h | h | h | h | h | h | h | h | h | h | h | h | h | h | h <;> subst h <;> exact ⟨rfl, rfl⟩

theorem Nb (x : Int) : ACr Tryz.prog GP 159 [.int x] (.tup [.int (partsOf x).1, .int (partsOf x).2]) := by
 refine Dd (ts := [2, 3]) 13 Tryz.func159 rfl rfl rfl (by simp) fun W I => ?_
 repeat' (first
  | refine cag Ee (String GP b u q s hpos hb3) ?_
  | exact True.intro
  | refine stp ?_
  | refine two ?_ ?_
  | (refine imp fun hc => ?_) <;> try exact cx hc
  | refine all fun v_ => ?_)
 · ((with_reducible apply rq2); rfl; rfl; rfl)
   refine AD ?_
   rw [DH x (by omega)]
 · ((with_reducible apply rq2); rfl; rfl; rfl)
   refine AD ?_
   rw [DH x (by omega)]
 · obtain ⟨h1, h2⟩ := Wo x (by omega) (by omega)
   refine jp (PA (c := .i .i64 (partsOf x).1) rfl rfl (by rw [List.getElem?_drop, Nat.mul_one]; exact h1)) rfl ?_
   repeat' (first
    | refine cag Ee (String GP b u q s hpos hb3) ?_
    | exact True.intro
    | refine stp ?_
    | refine two ?_ ?_
    | (refine imp fun hc => ?_) <;> try exact cx hc
    | refine all fun v_ => ?_)
   ((with_reducible apply rq2); rfl; rfl; rfl)
   refine AD ?_
   rw [h2]; rfl

theorem AT (l : List Fo) (a : Int) (G : List (Nat × List D)) (h0 : 0 ≤ a) (ha : a ≤ 140737488355328) : ACr Tryz.prog G 123 [.d (AN l), .int a] (.tup [.int (Sp.AT l a).1, .int (Sp.AT l a).2]) := by
 refine Dd (ts := [4, 5]) 37 Tryz.func123 rfl rfl rfl (by simp) fun W I => ?_
 refine EC (t := 0) rfl fun hl => ?_
 repeat' (first
  | refine ca HA (OZ _ _) ?_
  | exact True.intro
  | refine stp ?_
  | refine two ?_ ?_
  | (refine imp fun hc => ?_) <;> try exact cx hc
  | refine all fun v_ => ?_)
 refine XQ (X := Nat × Int) (fun p => [(0, .d (AN l)), (6, .int p.2), (7, .int p.1)]) (fun _ => []) (fun p => a ≤ p.1 ∧ (p.1 ≤ l.length ∨ p.1 = a) ∧ 0 < p.2 ∧ p.2 ≤ 1 + (p.1 : Int) + (p.1 : Int) ∧ Sp.AT l a = scan (l.drop p.1) p.2 p.1) (fun p => l.length - p.1) (a.toNat, 1) ?_ ?_ rfl ?_
 · refine ⟨by omega, by omega, by omega, by omega, ?_⟩
   simp only [Sp.AT]; rw [Int.toNat_of_nonneg h0]
 · exact leD
 rintro ⟨i, w⟩ ⟨h1, h2, h3, h4, h5⟩
 dsimp only at h1 h2 h3 h4 h5 ⊢
 by_cases hi : i < l.length
 · have hd : l.drop i = l[i] :: l.drop (i + 1) := List.drop_eq_getElem_cons hi
   have hp := Dj l[i].kind
   rw [hd, B3] at h5
   repeat' (first
    | refine ca HA (OZ _ _) ?_
    | exact True.intro
    | refine stp ?_
    | refine two ?_ ?_
    | (refine imp fun hc => ?_) <;> try exact cx hc
    | refine all fun v_ => ?_)
   · ((with_reducible apply rq2); rfl; rfl; rfl)
     refine AD ?_
     rw [h5, if_pos hc]
   · ((with_reducible apply rq2); rfl; rfl; rfl)
     refine AD ?_
     rw [h5, if_neg (by assumption), if_pos hc]
   · refine ⟨(i + 1, w + (partsOf l[i].kind).1 - 1), ⟨by omega, by omega, by dsimp only; omega, by dsimp only; omega, ?_⟩, by dsimp only; omega, ?_, rfl⟩
     · rw [h5, if_neg (by assumption), if_neg hc]; rfl
     · exact leD
 · repeat' (first
    | refine ca HA (OZ _ _) ?_
    | exact True.intro
    | refine stp ?_
    | refine two ?_ ?_
    | (refine imp fun hc => ?_) <;> try exact cx hc
    | refine all fun v_ => ?_)
   ((with_reducible apply rq2); rfl; rfl; rfl)
   refine AD ?_
   rw [h5, List.drop_eq_nil_of_le (by omega)]; rfl

theorem P5 : Cal Tryz.prog 128 := Cal.of Tryz.func128 (by kernel_rfl) (by kernel_rfl)
theorem N4 : Cal Tryz.prog 127 := Cal.of Tryz.func127 (by kernel_rfl) (by kernel_rfl)
theorem An : Cal Tryz.prog 91 := Cal.of Tryz.func91 (by kernel_rfl) (by kernel_rfl)

theorem Tw (p q : Addr) (w : World) :
 CallsD Tryz.prog 127 #[.pointer (some p), .pointer (some q)] .returning w fun e u' w' => e = .returned (.tuple #[]) ∧ u' = .returning ∧ w' = w := by
 refine callsD_of_wpS Tryz.func127 rfl fun c₀ cs hu => ?_
 apply wpS_seq
 apply wpS_region
 simp [wpOpsS, go_sem, recoverD, hu, Tryz.ntmps127, Exit.thenS]
 apply wpS_seq
 apply wpS_region
 simp [wpOpsS, go_sem, Exit.thenS]
 refine wpS_cond (t := false) (by simp [Act.eval, Array.replicate]) ?_
 simp only [Bool.false_eq_true, if_false]
 refine wpS_of_wp (wp_skip ?_)
 cases c₀
 simp_all [bodyPostS, results, Tryz.results127]

theorem Wy (b c : Nat) (hbc : b ≠ c) (x y : Value) (n : Int) (w : World) (hb : w.heap[b]? = some (.cells #[x] 43 (0, 0))) (hc : w.heap[c]? = some (.cells #[y] 30 (0, 0))) :
 CallsD Tryz.prog 127 #[.pointer (some ⟨b, 0, none⟩), .pointer (some ⟨c, 0, none⟩)] (.panicking [{ v := .iface 30 (.int .i64 n), recovered := false }]) w fun e u' w' =>
  e = .returned (.tuple #[]) ∧ u' = .panicking [{ v := .iface 30 (.int .i64 n), recovered := true }] ∧ w' = ((w.setCell ⟨b, 0, none⟩ (.slice none 0 0)).setCell ⟨c, 0, none⟩ (.int .i64 n)).drew := by
 refine callsD_of_wpS Tryz.func127 rfl fun c₀ cs hu => ?_
 apply wpS_seq
 apply wpS_region
 simp [wpOpsS, go_sem, recoverD, hu, Tryz.ntmps127, Exit.thenS]
 apply wpS_seq
 apply wpS_region
 simp [wpOpsS, go_sem, Exit.thenS]
 refine wpS_cond (t := true) (by simp [Act.eval, Array.replicate]) ?_
 simp only [if_true]
 refine wpS_of_wp ?_
 have hcb : w.cell? ⟨b, 0, none⟩ = some x := by rw [cell_of_row w b 0 _ _ _ hb]; rfl
 have hcc : w.cell? ⟨c, 0, none⟩ = some y := by rw [cell_of_row w c 0 _ _ _ hc]; rfl
 have fb : w.frozen? ⟨b, 0, none⟩ = false := by simp [World.frozen?, hb]
 have fc : w.frozen? ⟨c, 0, none⟩ = false := by simp [World.frozen?, hc]
 have hta : ∀ w : World, (Instr.typeAssert (.iface 30 (.int .i64 n)) 20 30 false).run Tryz.prog w = .ok (.int .i64 n) w := fun w => by
  simp [Instr.typeAssert, run_underlying Tryz.underlying30]
 go_region
 all_goals
  cases c₀
  simp_all [bodyPostS, results, Tryz.results127]

theorem My (p q : Addr) (h : H) : CD Tryz.prog 127 #[.pointer (some p), .pointer (some q)] .returning h h .returning :=
 fun _ _ w hok => (Tw p q w).mono fun _ _ _ ⟨h1, h2, h3⟩ => ⟨h1, h2, h3 ▸ hok, fun _ _ => by rw [h3]⟩
theorem P1 (b c : Nat) (x y : AV) (n : Int) : CD Tryz.prog 127 #[.pointer (some ⟨b, 0, none⟩), .pointer (some ⟨c, 0, none⟩)] (.panicking [{ v := .iface 30 (.int .i64 n), recovered := false }])
 [.cells c 30 [y], .cells b 43 [x]] [.cells c 30 [.int n], .cells b 43 [.val (.slice none 0 0)]] (.panicking [{ v := .iface 30 (.int .i64 n), recovered := true }]) := by
 intro cx I w hok
 obtain ⟨u1, d1⟩ := Ent.cells_one (hok.ent (.cells b 43 [x]) (by simp))
 obtain ⟨u2, d2⟩ := Ent.cells_one (hok.ent (.cells c 30 [y]) (by simp))
 have hbc : b ≠ c := by
  have := hok.nd
  simp [blks, Ent.blk] at this
  exact fun e => this e.symm
 refine (Wy b c hbc u1 u2 n w d1 d2).mono ?_
 rintro e u' w' ⟨h1, h2, rfl⟩
 obtain ⟨k1, k2⟩ := Ok.set1 (h1 := [.cells c 30 [y]]) (h2 := []) (v := .slice none 0 0) hok
 obtain ⟨k3, k4⟩ := Ok.set1 (h1 := []) (v := .int .i64 n) k1
 exact ⟨h1, h2, k3.same (Ev.drewN 1), fun z hz => (k4 z hz).trans (k2 z hz)⟩

def YG (l : List Fo) (b b' i : Nat) (es : List Int) (e : AE) (h : H) : Prop :=
 ∃ es' : List Int, es'.length = l.length ∧ h = [.cells b 196 [.d (AN l), .val (.slice (some ⟨b', 0, none⟩) l.length l.length)], .cells b' 3 (es'.map AV.int)] ∧
  ((∃ n : Nat, e = .ret (.int n) ∧ Sp.AT l i = ((n : Int), 0) ∧ (∀ j, i ≤ j → j < n → (Sp.AT l j).2 = 0 ∧ es'[j]? = some (Sp.AT l j).1) ∧ ∀ j, (j < i ∨ n ≤ j) → es'[j]? = es[j]?) ∨
   ((Sp.AT l i).2 ≠ 0 ∧ e = .pan [{ v := .iface 30 (.int .i64 (Sp.AT l i).2), recovered := false }]))

theorem skip (l : List Fo) (b b' : Nat) (hl : l.length ≤ 60) : ∀ (m i : Nat) (es : List Int), l.length ≤ i + m → es.length = l.length →
 AC Tryz.prog GP 128 [.val (.pointer (some ⟨b, 0, none⟩)), .int i] [.cells b 196 [.d (AN l), .val (.slice (some ⟨b', 0, none⟩) l.length l.length)], .cells b' 3 (es.map AV.int)] (YG l b b' i es) := by
 have done : ∀ (i : Nat) (es : List Int), es.length = l.length → (l.length : Int) ≤ i → YG l b b' i es (.pan [{ v := .iface 30 (.int .i64 4), recovered := false }]) [.cells b 196 [.d (AN l), .val (.slice (some ⟨b', 0, none⟩) l.length l.length)], .cells b' 3 (es.map AV.int)] := fun i es hes hi =>
  ⟨es, hes, rfl, .inr ⟨by rw [IX l i (by omega)]; decide, by rw [IX l i (by omega)]⟩⟩
 intro m
 induction m with
 | zero =>
   intro i es hm hes
   refine Dd (ts := [4]) 49 Tryz.func128 rfl rfl rfl (by simp) fun W I => ?_
   repeat' (first
    | refine ca ES (Nb _) ?_
    | exact True.intro
    | refine stp ?_
    | refine two ?_ ?_
    | (refine imp fun hc => ?_) <;> try exact cx hc
    | refine all fun v_ => ?_)
   exact done i es hes (by assumption)
 | succ m ih =>
   intro i es hm hes
   refine Dd (ts := [4]) 49 Tryz.func128 rfl rfl rfl (by simp) fun W I => ?_
   repeat' (first
    | refine ca ES (Nb _) ?_
    | exact True.intro
    | refine stp ?_
    | refine two ?_ ?_
    | (refine imp fun hc => ?_) <;> try exact cx hc
    | refine all fun v_ => ?_)
   · exact done i es hes (by assumption)
   · have he := HQ l i (by omega)
     rw [if_pos hc] at he
     exact ⟨es, hes, rfl, .inr ⟨by rw [he]; exact hc, by rw [he]⟩⟩
   have hi : i < l.length := by omega
   have he := HQ l i hi
   have hp := Dj l[i].kind
   rw [if_neg hc] at he
   generalize hn : (partsOf l[i].kind).1 = n at he hp ⊢
   refine XQ (X := Nat × Nat × List Int) (fun y => [(0, .val (.pointer (some ⟨b, 0, none⟩))), (1, .int i), (34, .int n), (35, .int y.1), (7, .int y.2.1)])
    (fun y => [.cells b 196 [.d (AN l), .val (.slice (some ⟨b', 0, none⟩) l.length l.length)], .cells b' 3 (y.2.2.map AV.int)])
    (fun y => (y.1 : Int) ≤ n ∧ i < y.2.1 ∧ y.2.1 ≤ l.length ∧ y.2.2.length = l.length ∧ Sp.AT l i = (if n - y.1 = 0 then ((y.2.1 : Int), 0) else scan (l.drop y.2.1) (n - y.1) y.2.1) ∧
     (∀ j, i < j → j < y.2.1 → (Sp.AT l j).2 = 0 ∧ y.2.2[j]? = some (Sp.AT l j).1) ∧ ∀ j, (j ≤ i ∨ y.2.1 ≤ j) → y.2.2[j]? = es[j]?)
    (fun y => n.toNat - y.1) (0, i + 1, es) ?_ ?_ rfl ?_
   · refine ⟨by omega, by dsimp only; omega, by dsimp only; omega, hes, ?_, fun j h1 h2 => by dsimp only at h2; omega, fun _ _ => rfl⟩
     rw [he]
     have : (1 : Int) + n - 1 = n - ((0 : Nat) : Int) := by omega
     dsimp only
     rw [this]
     rfl
   · exact leD
   rintro ⟨j, e, fs⟩ ⟨h1, h2, h3, h4, h5, h6, h7⟩
   dsimp only at h1 h2 h3 h4 h5 h6 h7 ⊢
   repeat' (first
    | refine ca ES (Nb _) ?_
    | exact True.intro
    | refine stp ?_
    | refine two ?_ ?_
    | (refine imp fun hc => ?_) <;> try exact cx hc
    | refine all fun v_ => ?_)
   · refine ga rfl P5 (ih e fs (by omega) h4) rfl (fun r h' hq => ?_) (fun ch h' hq => ?_)
     · obtain ⟨es', k1, rfl, ⟨n', k2, k3, k4, k5⟩ | ⟨_, k2⟩⟩ := hq
       · cases k2
         repeat' (first
          | refine ca ES (Nb _) ?_
          | exact True.intro
          | refine stp ?_
          | refine two ?_ ?_
          | (refine imp fun hc => ?_) <;> try exact cx hc
          | refine all fun v_ => ?_)
         have hb := BA l e (by rw [k3])
         rw [k3] at hb
         refine ⟨(j + 1, n', es'), ⟨by dsimp only; omega, by dsimp only at hb ⊢; omega, by dsimp only at hb ⊢; omega, k1, ?_, ?_, ?_⟩, by dsimp only; omega, ?_, rfl⟩
         · rw [h5, if_neg (by omega)]
           dsimp only
           by_cases hlast : n - ((j + 1 : Nat) : Int) = 0
           · rw [if_pos hlast]
             have : n - (j : Int) = 1 := by omega
             rw [this]
             have := k3
             unfold Sp.AT at this
             rwa [Int.toNat_natCast] at this
           · rw [if_neg hlast]
             have : n - (j : Int) = (n - ((j + 1 : Nat) : Int)) + 1 := by omega
             rw [this, Fb l e _ (by omega), k3]
             rfl
         · intro p hp1 hp2
           dsimp only at hp2 ⊢
           by_cases hpe : e ≤ p
           · exact k4 p hpe hp2
           · rw [k5 p (.inl (by omega))]
             exact h6 p hp1 (by omega)
         · intro p hp1
           dsimp only at hp1 ⊢
           dsimp only at hb
           rw [k5 p (by omega)]
           exact h7 p (by omega)
         · exact leD
       · cases k2
     · obtain ⟨es', k1, rfl, ⟨n', k2, k3, k4⟩ | ⟨k3, k2⟩⟩ := hq
       · cases k2
       · cases k2
         repeat' (refine stp ?_)
         refine ⟨es', k1, rfl, .inr ?_⟩
         have : (Sp.AT l i).2 = (Sp.AT l e).2 := by
          rw [h5, if_neg (by omega)]
          by_cases hlast : n - (j : Int) = 1
          · rw [hlast]; unfold Sp.AT; rw [Int.toNat_natCast]
          · have h : n - (j : Int) = (n - ((j + 1 : Nat) : Int)) + 1 := by omega
            rw [h, Fb l e _ (by omega), if_pos k3]
         rw [this]
         exact ⟨k3, rfl⟩
   · repeat' (first
      | refine ca ES (Nb _) ?_
      | exact True.intro
      | refine stp ?_
      | refine two ?_ ?_
      | (refine imp fun hc => ?_) <;> try exact cx hc
      | refine all fun v_ => ?_)
     refine du (h1 := [_]) rfl rfl IU rfl (by omega) ?_
     simp only [List.cons_append, List.nil_append, Int.toNat_natCast, Nat.mul_one]
     repeat' (first
      | refine ca ES (Nb _) ?_
      | exact True.intro
      | refine stp ?_
      | refine two ?_ ?_
      | (refine imp fun hc => ?_) <;> try exact cx hc
      | refine all fun v_ => ?_)
     ((with_reducible apply rq1); rfl; rfl)
     have hz : n - (j : Int) = 0 := by omega
     rw [if_pos hz] at h5
     refine ⟨fs.set i e, by simpa using h4, rfl, .inl ⟨e, rfl, h5, fun p hp1 hp2 => ?_, fun p hp1 => ?_⟩⟩
     · by_cases hpi : p = i
       · subst hpi
         rw [h5]
         exact ⟨rfl, by rw [List.getElem?_set_self (by omega)]⟩
       · rw [List.getElem?_set_ne (by omega)]
         exact h6 p (by omega) hp2
     · rw [List.getElem?_set_ne (by omega)]
       exact h7 p (by omega)

theorem Ends (l : List Fo) : ACr Tryz.prog GP 91 [.d (AN l)] (.tup [.d (AP (Az l).1), .int (Az l).2]) := by
 refine Yh 25 Tryz.func91 rfl rfl (by simp) fun W I => ?_
 apply EK
 repeat' (first
  | exact True.intro
  | refine stp ?_
  | refine two ?_ ?_
  | (refine imp fun hc => ?_) <;> try exact cx hc
  | refine all fun v_ => ?_)
 refine PX LB rfl rfl fun b2 => ?_
 refine PX JV rfl rfl fun b3 => ?_
 repeat' (first
  | exact True.intro
  | refine stp ?_
  | refine two ?_ ?_
  | (refine imp fun hc => ?_) <;> try exact cx hc
  | refine all fun v_ => ?_)
 apply Bq
 apply EK
 repeat' (first
  | exact True.intro
  | refine stp ?_
  | refine two ?_ ?_
  | (refine imp fun hc => ?_) <;> try exact cx hc
  | refine all fun v_ => ?_)
 · refine PS (h1 := [_]) rfl rfl rfl LB rfl ?_
   simp only [List.cons_append, List.nil_append]
   refine PS (h1 := []) rfl rfl rfl JV rfl ?_
   simp only [List.nil_append]
   repeat' (first
    | exact True.intro
    | refine stp ?_
    | refine two ?_ ?_
    | (refine imp fun hc => ?_) <;> try exact cx hc
    | refine all fun v_ => ?_)
   apply PV
   refine Dh rfl (by unfold A0; kernel_rfl) (by unfold A0; kernel_rfl) rfl rfl (List.mem_cons_of_mem _ List.mem_cons_self) List.mem_cons_self rfl (List.nil_sublist _) (AV.le_nil 1 8) (AV.le_refl _) ?_
   refine AD ?_
   rw [Az, if_pos (by omega)]; rfl
 apply Bq
 dsimp only
 refine TI (SI (vs := [.pointer (some ⟨b2, 0, none⟩), .pointer (some ⟨b3, 0, none⟩)]) rfl rfl ?_)
 apply Bq
 dsimp only
 apply EK
 repeat' (first
  | exact True.intro
  | refine stp ?_
  | refine two ?_ ?_
  | (refine imp fun hc => ?_) <;> try exact cx hc
  | refine all fun v_ => ?_)
 refine W5 rfl rfl IU (by omega) (by omega) rfl fun b' => ?_
 repeat' (first
  | exact True.intro
  | refine stp ?_
  | refine two ?_ ?_
  | (refine imp fun hc => ?_) <;> try exact cx hc
  | refine all fun v_ => ?_)
 refine gY rfl rfl rfl fun b => ?_
 repeat' (first
  | exact True.intro
  | refine stp ?_
  | refine two ?_ ?_
  | (refine imp fun hc => ?_) <;> try exact cx hc
  | refine all fun v_ => ?_)
 apply Bq
 dsimp only
 apply EK
 repeat' (first
  | exact True.intro
  | refine stp ?_
  | refine two ?_ ?_
  | (refine imp fun hc => ?_) <;> try exact cx hc
  | refine all fun v_ => ?_)
 have hk : AC Tryz.prog GP 128 [.val (.pointer (some ⟨b, 0, none⟩)), .int 0] [.cells b 196 [.d (AN l), .val (.slice (some ⟨b', 0, none⟩) l.length l.length)], .cells b' 3 ((List.replicate l.length 0).map AV.int)] (YG l b b' 0 (List.replicate l.length 0)) :=
  skip l b b' (by omega) l.length 0 (List.replicate l.length 0) (by omega) (by simp)
 have pan : ∀ (n : Int) (ρ : Env) (es : List Int), n = (Az l).2 → (Az l).1 = [] →
  LQ ⟨Tryz.prog, ⟨W, I, [], GP⟩, 25, [{ target := .fn (.func 127) #[.pointer (some ⟨b2, 0, none⟩), .pointer (some ⟨b3, 0, none⟩)], args := #[] }]⟩ Tryz.f91
   (Gq GP W I [] fun e h => e = .ret (.tup [.d (AP (Az l).1), .int (Az l).2]) ∧ h = []) (some (.panicking [{ v := .iface 30 (.int .i64 n), recovered := false }]))
   ((2, .val (.pointer (some ⟨b2, 0, none⟩))) :: (3, .val (.pointer (some ⟨b3, 0, none⟩))) :: ρ)
   [.cells b 196 [.d (AN l), .val (.slice (some ⟨b', 0, none⟩) l.length l.length)], .cells b' 3 (es.map AV.int), .cells b3 30 [.val (.int .i64 0)], .cells b2 43 [.val (.slice none 0 0)]]
   [{ target := .fn (.func 127) #[.pointer (some ⟨b2, 0, none⟩), .pointer (some ⟨b3, 0, none⟩)], args := #[] }] := by
  intro n ρ es h1 h2
  refine U3 (VS.drop (h' := [.cells b3 30 [.val (.int .i64 0)], .cells b2 43 [.val (.slice none 0 0)]]) (.cons _ (.cons _ (.refl _)))) ?_
  refine It (by simp) N4 (P1 b2 b3 _ _ n) (m := .returning) rfl ?_
  refine Dh (h0 := []) (y1 := .d (AP [])) rfl (by unfold A0; kernel_rfl) (by unfold A0; kernel_rfl) rfl rfl (List.mem_cons_of_mem _ List.mem_cons_self) List.mem_cons_self rfl (List.nil_sublist _) (AV.le_nil 1 8) (AV.le_refl _) ?_
  refine AD ?_
  rw [h1, h2]
 have h60 : ¬ 60 < l.length := by omega
 refine SS (hc := [_, _]) rfl P5 rfl hk rfl (fun r h' hq => ?_) (fun ch h' hq => ?_)
 · obtain ⟨es', k1, rfl, ⟨n', k2, k3, k4, k5⟩ | ⟨_, k2⟩⟩ := hq
   · cases k2
     have hb := BA l 0 (by rw [show ((0 : Nat) : Int) = 0 from rfl]; rw [show ((0 : Nat) : Int) = 0 from rfl] at k3; rw [k3])
     rw [show ((0 : Nat) : Int) = 0 from rfl] at k3 hb
     rw [k3] at hb
     simp only [List.cons_append, List.nil_append]
     repeat' (first
      | exact True.intro
      | refine stp ?_
      | refine two ?_ ?_
      | (refine imp fun hc => ?_) <;> try exact cx hc
      | refine all fun v_ => ?_)
     · apply Ju
       dsimp only at hb
       have h3 : (Az l) = ([], 3) := by rw [Az, if_neg h60, k3, if_neg (by simp), if_pos (by dsimp only; omega)]
       refine U3 (VS.of_le ?_) (pan _ [] es' ?_ ?_)
       · exact leD
       · rw [h3]
       · rw [h3]
     · have hn : n' = l.length := by omega
       have he : es' = (List.range l.length).map fun i : Nat => (Sp.AT l i).1 := by
        apply List.ext_getElem?
        intro j
        by_cases hj : j < l.length
        · rw [(k4 j (Nat.zero_le _) (by omega)).2, List.getElem?_map, List.getElem?_range hj]; rfl
        · rw [List.getElem?_eq_none (by omega), List.getElem?_eq_none (by simp; omega)]
       have h3 : (Az l) = (es', 0) := by rw [Az, if_neg h60, k3, if_neg (by simp), if_neg (by dsimp only; omega), he]
       apply Bq
       dsimp only
       apply aC
       repeat' (first
        | exact True.intro
        | refine stp ?_
        | refine two ?_ ?_
        | (refine imp fun hc => ?_) <;> try exact cx hc
        | refine all fun v_ => ?_)
       refine FX (VS.freezeCells (t := 24) (h1 := [_]) (rows := es'.map Ag) (sz := 1) (eb := 8) (by decide) rfl rfl (Jx es') (by simp [k1]) (by simp [Ag]) (by omega) (by simp only [maxLen]; omega)) ?_
       simp only [List.cons_append, List.nil_append]
       refine PS (h1 := [_, _]) rfl rfl rfl LB rfl ?_
       simp only [List.cons_append, List.nil_append]
       refine PS (h1 := [_]) rfl rfl rfl JV rfl ?_
       simp only [List.cons_append, List.nil_append]
       repeat' (first
        | exact True.intro
        | refine stp ?_
        | refine two ?_ ?_
        | (refine imp fun hc => ?_) <;> try exact cx hc
        | refine all fun v_ => ?_)
       refine It (by simp) N4 (My _ _ _) (m := .returning) rfl ?_
       refine Dh (h0 := []) rfl (by unfold A0; kernel_rfl) (by unfold A0; kernel_rfl) rfl rfl (List.mem_cons_of_mem _ (List.mem_cons_of_mem _ List.mem_cons_self)) (List.mem_cons_of_mem _ List.mem_cons_self) rfl (List.nil_sublist _) (AV.le_refl _) (AV.le_refl _) ?_
       refine AD ?_
       rw [h3]
   · cases k2
 · obtain ⟨es', k1, rfl, ⟨n', k2, k3, k4⟩ | ⟨k3, k2⟩⟩ := hq
   · cases k2
   · cases k2
     have k3 : (Sp.AT l 0).2 ≠ 0 := k3
     repeat' (refine stp ?_)
     apply Ju
     refine U3 (VS.of_le ?_) (pan _ [] es' ?_ ?_)
     · exact leD
     · rw [Az, if_neg h60, if_pos k3]; rfl
     · rw [Az, if_neg h60, if_pos k3]
end Go.Proofs.YtajnpfgelpkijaaGreatDoor
