/- A bundle of this claim's own texts: TopS TopZ. -/
import Derived.Test.YtajnpfgelpkijaaGreatDoorCards
import Derived.Test.YtajnpfgelpkijaaGreatDoorTie
import Derived.WalkKit
import Derived.ProofKit
import Derived.OpenShut
import Derived.Deep.DeepHandedRow
import Derived.Lib.LaidTab
import Derived.Lay
import Derived.LaidLaws
import Derived.Test.YtajnpfgelpkijaaGreatDoorZ1
import Derived.Test.YtajnpfgelpkijaaGreatDoorZ2
import Derived.Test.YtajnpfgelpkijaaGreatDoorZ6
import Derived.Test.YtajnpfgelpkijaaGreatDoorZ13
set_option linter.unusedVariables false
set_option linter.unusedSimpArgs false
set_option maxRecDepth 100000
set_option maxHeartbeats 4000000
namespace Go.Proofs.YtajnpfgelpkijaaGreatDoor
open Go Go.Av Go.Sp Go.ChangeShapes Go.WideShapes Go.ChangeAt Go.RowKit

abbrev laidRow := Rows.sheetReadsRow
theorem ownKn : ownKnob Tryz.prog.godebug = none := by kernel_rfl
theorem laidOutAll : laidOutB Tryz.prog = true := by kernel_rfl
def Reads1 (P : Program) (w : World) (n : _root_.String) (d : DataW Unit) : Prop :=
 ∃ g t cs fuel p, P.globalNamed n = some g ∧ (P.globals[g]?).map (·.type) = some t ∧ w.var? P n = some cs ∧ DataW.trod (fun _ => ()) P w 0 (fun _ => true) false fuel t cs.toList = some (d, p)
theorem reads_all {P : Program} {w : World} : ∀ {l : List (_root_.String × DataW Unit)} {ps : List MemPlace}, DataW.LaidVars P w l ps → ∀ n d, (n, d) ∈ l → Reads1 P w n d
 | [], _, _, _, _, hm => by cases hm
 | (n', d') :: r, ps, h, n, d, hm => by
   obtain ⟨g, t, cs, fuel, p, q, h1, h2, h3, h4, h5, _⟩ := h
   rcases List.mem_cons.1 hm with e | e
   · cases e
     exact ⟨g, t, cs, fuel, p, h1, h2, h3, h4⟩
   · exact reads_all h5 n d e
theorem reads1 {W : World} (h : laidMetH Tryz.prog laidRow.laid W) {n : _root_.String} {d : DataW Unit} (hm : (n, d) ∈ laidRow.laid) : Reads1 Tryz.prog W n d := by
 rw [MakeChecks.laidMetH_plain _ _ _ (by kernel_rfl)] at h
 obtain ⟨_, hv, _⟩ := h
 exact reads_all hv n d hm
theorem strs_of_tab {P : Program} {w : World} {fuel : Nat} {t e : TypeId} {n : Nat} {cs : List Value} {ls : List (List UInt8)} {p : List MemPlace} (ht : P.underlying t = some (.array n e)) (he : P.underlying e = some .string) (hce : P.cellsOf e = 1)
 (h : DataW.trod (fun _ => ()) P w 0 (fun _ => true) false fuel t cs = some (.agg (ls.map fun l => .lit (.string l)), p)) : ∀ (i : Nat) (l : List UInt8), ls[i]? = some l → cs[i]? = some (.string (tx l)) := by
 cases fuel with
 | zero => simp [DataW.trod] at h
 | succ fuel =>
   simp only [DataW.trod, ht, hce, Nat.mul_one] at h
   split at h
   · obtain ⟨xs, hm, hx⟩ := Option.map_eq_some_iff.1 h
     have hxs : xs.map (·.1) = ls.map fun l => (DataW.lit (.string l) : DataW Unit) := by
      have := congrArg Prod.fst hx
      simpa using this
     have hxl : xs.length = n := by simpa using Lib.mapM_length hm
     have hzl : ls.length = n := by
      have := congrArg List.length hxs
      simp at this
      omega
     intro i l hl
     have hi : i < n := by rw [← hzl]; exact (List.getElem?_eq_some_iff.1 hl).1
     obtain ⟨b, hb, hf⟩ := Lib.mapM_at hm i i (by simp [hi])
     obtain ⟨s, hc, rfl, _⟩ := DataW.trod_string he hf
     have h1 : cs[i]? = some (.string s) := by
      have := congrArg (·[0]?) hc
      simpa [List.getElem?_take, List.getElem?_drop] using this
     have h2 : (xs.map (·.1))[i]? = some (DataW.lit (.string s.data.toList) : DataW Unit) := by simp [hb]
     rw [hxs, List.getElem?_map, hl] at h2
     simp only [Option.map_some, Option.some.injEq, DataW.lit.injEq, Lit.string.injEq] at h2
     rw [h1, h2, tx_list]
   · cases h
theorem heap_of_var {P : Program} {w : World} {n : _root_.String} {g : Nat} {cs : Array Value} (hg : P.globalNamed n = some g) (h : w.var? P n = some cs) : ∃ t fr, w.heap[g]? = some (.cells cs t fr) := by
 unfold World.var? at h
 rw [hg, Option.bind_some] at h
 split at h
 · rename_i c t fr e
   cases h
   exact ⟨t, fr, e⟩
 · cases h
theorem g_parts : Tryz.prog.globalNamed "foretell/polish.parts" = some 7 := by kernel_rfl
theorem gt_parts : (Tryz.prog.globals[7]?).map (·.type) = some 254 := by kernel_rfl
theorem g_marks : Tryz.prog.globalNamed "foretell/sheet.marks" = some 0 := by kernel_rfl
theorem gt_marks : (Tryz.prog.globals[0]?).map (·.type) = some 124 := by kernel_rfl
theorem g_pow : Tryz.prog.globalNamed "internal/strconv.uint64pow10" = some 4 := by kernel_rfl
theorem gt_pow : (Tryz.prog.globals[4]?).map (·.type) = some 233 := by kernel_rfl
def partsZ : List Int := [-1, 0, 0, 2, 2, 2, 2, 2, 2, 2, 1, 0, 0, 0, 1, 2, 2, 1, 1]
theorem heap_parts {W : World} (h : laidMetH Tryz.prog laidRow.laid W) : ∃ t fr, W.heap[7]? = some (.cells (partsZ.map fun z => Value.int .i64 z).toArray t fr) := by
 obtain ⟨g, t, cs, fuel, p, h1, h2, h3, h4⟩ := reads1 h (n := "foretell/polish.parts") (d := Rows.laid_foretell_polish_parts) (by ((repeat (first | exact List.mem_cons_self | apply List.mem_cons_of_mem)); first | done | fail))
 obtain rfl := Option.some.inj (g_parts.symm.trans h1)
 obtain rfl := Option.some.inj (gt_parts.symm.trans h2)
 rw [show (Rows.laid_foretell_polish_parts : DataW Unit) = Lib.tabData .i64 partsZ by kernel_rfl] at h4
 have e := Lib.cells_of_tab Tryz.underlying254 Tryz.underlying3 (by kernel_rfl) (by kernel_rfl) h4
 obtain ⟨t', fr, h5⟩ := heap_of_var g_parts h3
 exact ⟨t', fr, by rw [h5, ← e]⟩
theorem heap_pow {W : World} (h : laidMetH Tryz.prog laidRow.laid W) : ∃ t fr, W.heap[4]? = some (.cells (Lib.pow10Tab.map fun z => Value.int .u64 z).toArray t fr) := by
 obtain ⟨g, t, cs, fuel, p, h1, h2, h3, h4⟩ := reads1 h (n := "internal/strconv.uint64pow10") (d := Rows.laid_internal_strconv_uint64pow10) (by ((repeat (first | exact List.mem_cons_self | apply List.mem_cons_of_mem)); first | done | fail))
 obtain rfl := Option.some.inj (g_pow.symm.trans h1)
 obtain rfl := Option.some.inj (gt_pow.symm.trans h2)
 rw [show (Rows.laid_internal_strconv_uint64pow10 : DataW Unit) = Lib.tabData .u64 Lib.pow10Tab by kernel_rfl] at h4
 have e := Lib.cells_of_tab Tryz.underlying233 Tryz.underlying199 (by kernel_rfl) (by kernel_rfl) h4
 obtain ⟨t', fr, h5⟩ := heap_of_var g_pow h3
 exact ⟨t', fr, by rw [h5, ← e]⟩
theorem heap_marks {W : World} (h : laidMetH Tryz.prog laidRow.laid W) : ∃ cs t fr, W.heap[0]? = some (.cells cs t fr) ∧ ∀ (i : Nat) l, marksL[i]? = some l → cs[i]? = some (.string (tx l)) := by
 obtain ⟨g, t, cs, fuel, p, h1, h2, h3, h4⟩ := reads1 h (n := "foretell/sheet.marks") (d := Rows.laid_foretell_sheet_marks) (by ((repeat (first | exact List.mem_cons_self | apply List.mem_cons_of_mem)); first | done | fail))
 obtain rfl := Option.some.inj (g_marks.symm.trans h1)
 obtain rfl := Option.some.inj (gt_marks.symm.trans h2)
 rw [show (Rows.laid_foretell_sheet_marks : DataW Unit) = .agg (marksL.map fun l => .lit (.string l)) by kernel_rfl] at h4
 have e := strs_of_tab Tryz.underlying124 Tryz.underlying9 (by kernel_rfl) h4
 obtain ⟨t', fr, h5⟩ := heap_of_var g_marks h3
 exact ⟨cs, t', fr, h5, fun i l hl => by have := e i l hl; simpa using this⟩
theorem pd_cells {w : World} {g : Nat} {cs : Array Value} {t : TypeId} {fr : Nat × Nat} {ds : List D} (h : w.heap[g]? = some (.cells cs t fr)) (hd : ∀ (u : Nat) x, ds[u]? = some x → ∃ c, cs[u]? = some c ∧ Rel w (fun b => b < w.heap.size) x c) : PD w (fun b => b < w.heap.size) ds ⟨g, 0, none⟩ :=
 ⟨(Array.getElem?_eq_some_iff.1 h).1, fun u x hx => by
   obtain ⟨c, h1, h2⟩ := hd u x hx
   exact ⟨c, by rw [Addr.add_lit, Nat.zero_add, cell_of_row w g u cs t fr h]; exact h1, h2⟩⟩
theorem globPD1 {W : World} (h : laidMetH Tryz.prog laidRow.laid W) : ∀ q ∈ GP0 ++ GP1, PD W (fun b => b < W.heap.size) q.2 ⟨q.1, 0, none⟩ := by
 intro q hq
 rcases List.mem_append.1 hq with hq | hq
 · obtain rfl : q = (7, partsT) := by simpa [GP0] using hq
   obtain ⟨t, fr, h1⟩ := heap_parts h
   refine pd_cells h1 fun u x hx => ?_
   have : partsT = partsZ.map fun n => D.i .i64 n := rfl
   rw [this, List.getElem?_map] at hx
   cases hz : partsZ[u]? with
   | none => rw [hz] at hx; cases hx
   | some z =>
     rw [hz] at hx
     cases hx
     exact ⟨.int .i64 z, by simp [hz], .i _ _⟩
 · simp only [GP1, List.mem_cons, List.not_mem_nil, or_false] at hq
   rcases hq with rfl | rfl
   · obtain ⟨cs, t, fr, h1, h2⟩ := heap_marks h
     refine pd_cells h1 fun u x hx => ?_
     simp only [marksT, List.getElem?_map] at hx
     cases hz : marksL[u]? with
     | none => rw [hz] at hx; cases hx
     | some l =>
       rw [hz] at hx
       cases hx
       exact ⟨.string (tx l), h2 u l hz, .s _⟩
   · obtain ⟨t, fr, h1⟩ := heap_pow h
     refine pd_cells h1 fun u x hx => ?_
     cases u with
     | succ u => simp [powT] at hx
     | zero =>
       simp only [powT, List.getElem?_cons_zero, Option.some.injEq] at hx
       subst hx
       exact ⟨.int .u64 1, by kernel_rfl, .sm _ _ _ _ (Array.getElem?_eq_some_iff.1 h1).1 h1 ⟨_, _, _, rfl⟩ ⟨rfl, t, fr, rfl⟩ rfl⟩
theorem heap_of_cell {w : World} {g : Nat} {v : Value} (h : w.cell? ⟨g, 0, none⟩ = some v) : ∃ cs t fr, w.heap[g]? = some (.cells cs t fr) ∧ cs[0]? = some v := by
 unfold World.cell? at h
 split at h
 · rename_i cs t fr e
   exact ⟨cs, t, fr, e, h⟩
 · cases h
theorem trod_iface {P : Program} {w : World} {fuel : Nat} {t : TypeId} {ms : Array (_root_.String × TypeId)} {cs : List Value} {x : DataW Unit × List MemPlace} (ht : P.underlying t = some (.interface ms)) (h : DataW.trod (fun _ => ()) P w 0 (fun _ => true) false fuel t cs = some x) : ∃ v, cs = [v] ∧ isIf v := by
 cases fuel with
 | zero => simp [DataW.trod] at h
 | succ n =>
   unfold DataW.trod at h
   rw [ht] at h
   split at h <;> first | exact ⟨_, rfl, .inl rfl⟩ | exact ⟨_, rfl, .inr ⟨_, _, rfl⟩⟩ | simp_all
theorem pd_sm {w : World} {g : Nat} {cs : Array Value} {t : TypeId} {fr : Nat × Nat} {p : Value → Prop} {v : Value} (h : w.heap[g]? = some (.cells cs t fr)) (hv : cs[0]? = some v) (hp : p v) (hone : v.oneCell' = true) : PD w (fun b => b < w.heap.size) [.sm fun _ _ v => p v] ⟨g, 0, none⟩ := by
 refine pd_cells h fun u x hx => ?_
 cases u with
 | succ u => simp at hx
 | zero =>
   simp only [List.getElem?_cons_zero, Option.some.injEq] at hx
   subst hx
   exact ⟨v, hv, .sm _ _ _ _ (Array.getElem?_eq_some_iff.1 h).1 h ⟨_, _, _, rfl⟩ hp hone⟩
theorem isIf_one {v : Value} (h : isIf v) : v.oneCell' = true := by
 rcases h with rfl | ⟨a, b, rfl⟩ <;> rfl
theorem g_syn : Tryz.prog.globalNamed "strconv.ErrSyntax" = some 2 := by kernel_rfl
theorem gt_syn : (Tryz.prog.globals[2]?).map (·.type) = some 88 := by kernel_rfl
theorem g_ran : Tryz.prog.globalNamed "strconv.ErrRange" = some 3 := by kernel_rfl
theorem gt_ran : (Tryz.prog.globals[3]?).map (·.type) = some 88 := by kernel_rfl
theorem isIface_error : ∃ ms, Tryz.prog.underlying 88 = some (.interface ms) := ⟨_, Tryz.underlying88⟩
theorem globPD {W : World} (h : laidMetH Tryz.prog laidRow.laid W) (hsh : W.ShapedOpen Tryz.prog) : ∀ q ∈ GP, PD W (fun b => b < W.heap.size) q.2 ⟨q.1, 0, none⟩ := by
 intro q hq
 obtain ⟨ms, he⟩ := isIface_error
 have hq' : q ∈ (GP0 ++ GP1) ++ GP2 := by simpa [GP, List.append_assoc] using hq
 rcases List.mem_append.1 hq' with hq | hq
 · exact globPD1 h q hq
 · simp only [GP2, List.mem_cons, List.not_mem_nil, or_false] at hq
   rcases hq with rfl | rfl | rfl
   · obtain ⟨m, hm⟩ := Tryz.laysM146.s1_3 W hsh
     obtain ⟨cs, t, fr, h1, h2⟩ := heap_of_cell hm
     exact pd_sm (p := isI64) h1 h2 ⟨m, rfl⟩ rfl
   · obtain ⟨g, t, cs, fuel, p, h1, h2, h3, h4⟩ := reads1 h (n := "strconv.ErrSyntax") (d := Rows.laid_strconv_ErrSyntax) (by ((repeat (first | exact List.mem_cons_self | apply List.mem_cons_of_mem)); first | done | fail))
     obtain rfl := Option.some.inj (g_syn.symm.trans h1)
     obtain rfl := Option.some.inj (gt_syn.symm.trans h2)
     obtain ⟨v, e, hv⟩ := trod_iface he h4
     obtain ⟨t', fr, h5⟩ := heap_of_var g_syn h3
     exact pd_sm (p := isIf) h5 (by rw [← Array.getElem?_toList, e]; rfl) hv (isIf_one hv)
   · obtain ⟨g, t, cs, fuel, p, h1, h2, h3, h4⟩ := reads1 h (n := "strconv.ErrRange") (d := Rows.laid_strconv_ErrRange) (by ((repeat (first | exact List.mem_cons_self | apply List.mem_cons_of_mem)); first | done | fail))
     obtain rfl := Option.some.inj (g_ran.symm.trans h1)
     obtain rfl := Option.some.inj (gt_ran.symm.trans h2)
     obtain ⟨v, e, hv⟩ := trod_iface he h4
     obtain ⟨t', fr, h5⟩ := heap_of_var g_ran h3
     exact pd_sm (p := isIf) h5 (by rw [← Array.getElem?_toList, e]; rfl) hv (isIf_one hv)
theorem witness_row_shaped {H : Type} {enc : TypeId × Value → H} {C : Checked} {os : Os} {f : FuncId} {fn : Func} {s : OpenSpec} {conds : List PathCond} {apart : Bool} {laid : List (_root_.String × DataW Unit)} (modest : Bool) (w0 : World) (args : Array Value) (hos : w0.os = os)
 (hsh : (w0.forCall (fun _ _ => 0) ⟨#[], args, []⟩).Shaped C.prog)
 (hok : Input.okWideB C.prog (w0.forCall (fun _ _ => 0) ⟨#[], args, []⟩) f ⟨#[], args, []⟩ = true)
 (hrow : s.preRow enc C.prog fn conds apart laid (w0.forCall (fun _ _ => 0) ⟨#[], args, []⟩).memory args) :
 ∃ (w : World) (tape : Tape) (i : Input), w.os = os ∧ (w.forCall tape i).Shaped C.prog ∧ i.vars = [] ∧ Input.okWide C.prog (w.forCall tape i) .any w.heap.size f i ∧
  s.preRow enc C.prog fn conds apart laid (w.forCall tape i).memory i.args ∧ ({ modest := modest } : Assume).holds C.prog (lone (Frame.enter C.prog f i.args .normal) [] (w.forCall tape i)) :=
 ⟨w0, fun _ _ => 0, ⟨#[], args, []⟩, hos, hsh, (Input.okWide_of_okWideB (base := 0) hok).1, (Input.okWide_of_okWideB hok).2, hrow, by
  simp only [Assume.holds]
  exact ⟨by simp, by simp, fun _ => Modest.zero, by simp, by simp⟩⟩
end Go.Proofs.YtajnpfgelpkijaaGreatDoor
