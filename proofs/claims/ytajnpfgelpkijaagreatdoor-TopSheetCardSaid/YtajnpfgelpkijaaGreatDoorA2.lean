/- A bundle of this claim's own texts: S1 Q4 E21 Sc Q5 G7 G1 Q2. -/
import Derived.Shelf.Strings.Builder1
import Derived.Shelf.Strconv.Itoa3
import Derived.Test.YtajnpfgelpkijaaGreatDoorProg
import Derived.Sort.Grow
import Derived.RangeFuncNested
import Derived.RangeFuncBound
import Derived.RangeFuncCalls
import Derived.RangeFuncLeaves
import Derived.Shelf.Strings.SplitShaped
import Derived.Shelf.Strings.Prefix
import Derived.Shelf.Small.Strs
import Derived.Shelf.Small.Wraps
import Derived.Shelf.Strconv.AtoiAll
import Derived.Shelf.Sort.Plain
import Derived.Shelf.Slices.In.SortNone
import Derived.Shelf.Slices.CompactI
import Derived.Test.YtajnpfgelpkijaaGreatDoorA1
set_option linter.unusedVariables false
set_option linter.unusedSimpArgs false
set_option maxRecDepth 100000
set_option maxHeartbeats 4000000
namespace Go.Sp
open Go.Av

structure Fo where
 kind : Int
 val : Int
def Fo.cells (o : Fo) : List D := [.i .i64 o.kind, .i .i64 o.val]
abbrev AN (l : List Fo) : D := .l 2 16 (l.map Fo.cells)
def Ag (n : Int) : List D := [.i .i64 n]
abbrev AP (l : List Int) : D := .l 1 8 (l.map Ag)
def N8 (b : Bool) : List D := [.b b]
abbrev Bv (l : List Bool) : D := .l 1 1 (l.map N8)

def partsOf (k : Int) : Int × Int :=
 if k = 1 ∨ k = 2 ∨ k = 11 ∨ k = 12 ∨ k = 13 then (0, 0)
 else if k = 10 ∨ k = 14 ∨ k = 17 ∨ k = 18 then (1, 0)
 else if k = 3 ∨ k = 4 ∨ k = 5 ∨ k = 6 ∨ k = 7 ∨ k = 8 ∨ k = 9 ∨ k = 15 ∨ k = 16 then (2, 0)
 else (0, 13)

def scan : List Fo → Int → Int → Int × Int
 | [], _, _ => (0, 4)
 | o :: r, w, i => if (partsOf o.kind).2 ≠ 0 then (0, (partsOf o.kind).2) else if w + (partsOf o.kind).1 - 1 = 0 then (i + 1, 0) else scan r (w + (partsOf o.kind).1 - 1) (i + 1)
def AT (l : List Fo) (at_ : Int) : Int × Int := scan (l.drop at_.toNat) 1 at_
theorem DH (k : Int) (h : k < 1 ∨ 18 < k) : partsOf k = (0, 13) := by
 unfold partsOf
 rw [if_neg (by omega), if_neg (by omega), if_neg (by omega)]
theorem Dj (k : Int) : 0 ≤ (partsOf k).1 ∧ (partsOf k).1 ≤ 2 := by unfold partsOf; split <;> (try split) <;> (try split) <;> simp

theorem B3 (o : Fo) (r : List Fo) (w i : Int) : scan (o :: r) w i = if (partsOf o.kind).2 ≠ 0 then (0, (partsOf o.kind).2) else if w + (partsOf o.kind).1 - 1 = 0 then (i + 1, 0) else scan r (w + (partsOf o.kind).1 - 1) (i + 1) := rfl

theorem DF : ∀ (r : List Fo) (w i : Int), (scan r w i).2 = 0 → i < (scan r w i).1 ∧ (scan r w i).1 ≤ i + r.length
 | [], w, i, h => by simp [scan] at h
 | o :: r, w, i, h => by
   rw [B3] at h ⊢
   split
   · rename_i h1; rw [if_pos h1] at h; exact absurd h h1
   · rename_i h1
     rw [if_neg h1] at h
     split
     · simp; omega
     · rename_i h2
       rw [if_neg h2] at h
       have := DF r _ _ h
       simp only [List.length_cons]
       omega

theorem Ek : ∀ (m : Nat) (r : List Fo), r.length ≤ m → ∀ (w i : Int), 1 ≤ w →
 scan r (w + 1) i = if (scan r 1 i).2 ≠ 0 then (0, (scan r 1 i).2) else scan (r.drop ((scan r 1 i).1 - i).toNat) w (scan r 1 i).1
 | _, [], _, w, i, _ => by simp [scan]
 | 0, _ :: _, hm, _, _, _ => by simp at hm
 | m + 1, o :: r, hm, w, i, hw => by
   have hm' : r.length ≤ m := by simp at hm; omega
   rw [B3 o r (w + 1) i]
   have hp := Dj o.kind
   by_cases h1 : (partsOf o.kind).2 ≠ 0
   · have hs : scan (o :: r) 1 i = (0, (partsOf o.kind).2) := by rw [B3, if_pos h1]
     rw [if_pos h1, hs, if_pos h1]
   · rw [if_neg h1]
     have h2 : ¬ (w + 1 + (partsOf o.kind).1 - 1 = 0) := by omega
     rw [if_neg h2]
     have hdrop : ∀ (e : Int), i < e → (o :: r).drop (e - i).toNat = r.drop (e - (i + 1)).toNat := fun e he => by
      have : (e - i).toNat = (e - (i + 1)).toNat + 1 := by omega
      rw [this, List.drop_succ_cons]
     have hc : (partsOf o.kind).1 = 0 ∨ (partsOf o.kind).1 = 1 ∨ (partsOf o.kind).1 = 2 := by omega
     rcases hc with hc | hc | hc
     · have hs : scan (o :: r) 1 i = (i + 1, 0) := by rw [B3, if_neg h1, hc]; rfl
       have e1 : (w : Int) + 1 + (partsOf o.kind).1 - 1 = w := by omega
       have : (i + 1 - (i + 1)).toNat = 0 := by omega
       rw [hs, if_neg (by simp), hdrop _ (by dsimp only; omega), this, List.drop_zero, e1]
     · have hs : scan (o :: r) 1 i = scan r 1 (i + 1) := by rw [B3, if_neg h1, hc]; rfl
       have e1 : (w : Int) + 1 + (partsOf o.kind).1 - 1 = w + 1 := by omega
       rw [hs, e1, Ek m r hm' w (i + 1) hw]
       by_cases h3 : (scan r 1 (i + 1)).2 ≠ 0
       · rw [if_pos h3, if_pos h3]
       · rw [if_neg h3, if_neg h3]
         have hb := DF r 1 (i + 1) (by simpa using h3)
         rw [hdrop _ (by omega)]
     · have hs : scan (o :: r) 1 i = scan r (1 + 1) (i + 1) := by rw [B3, if_neg h1, hc]; rfl
       have e1 : (w : Int) + 1 + (partsOf o.kind).1 - 1 = (w + 1) + 1 := by omega
       rw [hs, e1, Ek m r hm' (w + 1) (i + 1) (by omega), Ek m r hm' 1 (i + 1) (by omega)]
       by_cases h3 : (scan r 1 (i + 1)).2 ≠ 0
       · rw [if_pos h3, if_pos h3, if_pos h3]
       · rw [if_neg h3, if_neg h3]
         have hb := DF r 1 (i + 1) (by simpa using h3)
         have hl : (r.drop ((scan r 1 (i + 1)).1 - (i + 1)).toNat).length ≤ m := by rw [List.length_drop]; omega
         rw [Ek m _ hl w _ hw]
         generalize hs : scan (r.drop ((scan r 1 (i + 1)).1 - (i + 1)).toNat) 1 (scan r 1 (i + 1)).1 = s
         by_cases h4 : s.2 ≠ 0
         · rw [if_pos h4, if_pos h4]
         · rw [if_neg h4, if_neg h4]
           have hb2 := DF (r.drop ((scan r 1 (i + 1)).1 - (i + 1)).toNat) 1 (scan r 1 (i + 1)).1 (by rw [hs]; simpa using h4)
           rw [hs] at hb2
           rw [hdrop _ (by omega), List.drop_drop]
           congr 2; omega

theorem HQ (l : List Fo) (i : Nat) (hi : i < l.length) : AT l i = if (partsOf l[i].kind).2 ≠ 0 then (0, (partsOf l[i].kind).2) else if 1 + (partsOf l[i].kind).1 - 1 = 0 then ((i : Int) + 1, 0) else scan (l.drop (i + 1)) (1 + (partsOf l[i].kind).1 - 1) ((i : Int) + 1) := by
 unfold AT
 rw [Int.toNat_natCast, List.drop_eq_getElem_cons hi, B3]
theorem IX (l : List Fo) (i : Nat) (hi : l.length ≤ i) : AT l i = (0, 4) := by
 unfold AT
 rw [Int.toNat_natCast, List.drop_eq_nil_of_le hi]; rfl
theorem BA (l : List Fo) (i : Nat) (h : (AT l i).2 = 0) : (i : Int) < (AT l i).1 ∧ (AT l i).1 ≤ l.length := by
 have := DF (l.drop i) 1 i (by simpa [AT] using h)
 simp only [AT, Int.toNat_natCast]
 rw [List.length_drop] at this
 by_cases hi : i ≤ l.length
 · omega
 · rw [IX l i (by omega)] at h; simp at h
theorem Fb (l : List Fo) (i : Nat) (w : Int) (hw : 1 ≤ w) : scan (l.drop i) (w + 1) i = if (AT l i).2 ≠ 0 then (0, (AT l i).2) else scan (l.drop (AT l i).1.toNat) w (AT l i).1 := by
 have := Ek _ (l.drop i) (Nat.le_refl _) w i hw
 rw [this]
 have he : AT l i = scan (l.drop i) 1 i := by unfold AT; rw [Int.toNat_natCast]
 rw [he]
 by_cases h : (scan (l.drop i) 1 i).2 ≠ 0
 · rw [if_pos h, if_pos h]
 · rw [if_neg h, if_neg h]
   have hb := DF (l.drop i) 1 i (by simpa using h)
   have e : i + ((scan (l.drop i) 1 i).1 - i).toNat = (scan (l.drop i) 1 i).1.toNat := by omega
   rw [List.drop_drop, e]

theorem Jx (l : List Int) : l.map AV.int = ((l.map Ag).flatten).map D.av := by
 induction l with
 | nil => rfl
 | cons x l ih => simp only [List.map_cons, List.flatten_cons, List.map_append, ← ih]; rfl
theorem Es (l : List Bool) : l.map AV.bool = ((l.map N8).flatten).map D.av := by
 induction l with
 | nil => rfl
 | cons x l ih => simp only [List.map_cons, List.flatten_cons, List.map_append, ← ih]; rfl
theorem Fo.ext' {a b : Fo} (h1 : a.kind = b.kind) (h2 : a.val = b.val) : a = b := by cases a; cases b; simp_all
def Az (l : List Fo) : List Int × Int :=
 if 60 < l.length then ([], 1)
 else if (AT l 0).2 ≠ 0 then ([], (AT l 0).2)
 else if (AT l 0).1 < l.length then ([], 3)
 else ((List.range l.length).map fun i : Nat => (AT l i).1, 0)

def Jc (t : List Fo) : List D := [AN t]
abbrev Bi (l : List (List Fo)) : D := .l 1 24 (l.map Jc)

theorem Cb {l : List Fo} {es : List Int} (h : Az l = (es, 0)) : l.length ≤ 60 ∧ 0 < l.length ∧ AT l 0 = ((l.length : Int), 0) ∧ es.length = l.length ∧ ∀ (j : Nat) (hj : j < es.length), es[j] = (AT l j).1 := by
 unfold Az at h
 by_cases h1 : 60 < l.length
 · rw [if_pos h1] at h; simp at h
 rw [if_neg h1] at h
 by_cases h2 : (AT l 0).2 ≠ 0
 · rw [if_pos h2] at h; simp at h; exact absurd h.2 h2
 rw [if_neg h2] at h
 by_cases h3 : (AT l 0).1 < l.length
 · rw [if_pos h3] at h; simp at h
 rw [if_neg h3] at h
 have hb := BA l 0 (by simpa using h2)
 simp only [Prod.mk.injEq, and_true] at h
 subst h
 have e0 : ((0 : Nat) : Int) = 0 := rfl
 rw [e0] at hb
 refine ⟨by omega, by omega, Prod.ext ?_ ?_, by simp, fun j hj => by simp⟩
 · dsimp only; omega
 · simpa using h2
def chunks (l : List Fo) : Nat → Nat → List (List Fo)
 | 0, _ => []
 | k + 1, i => (l.drop i).take ((AT l i).1.toNat - i) :: chunks l k (AT l i).1.toNat
theorem S4 {l : List Fo} {i k : Nat} {n : Int} (hk : 1 ≤ k) (h : scan (l.drop i) k i = (n, 0)) : (AT l i).2 = 0 ∧ (i : Int) < (AT l i).1 ∧ (AT l i).1 ≤ l.length ∧ (k = 1 → (AT l i).1 = n) ∧ (2 ≤ k → scan (l.drop (AT l i).1.toNat) ((k - 1 : Nat) : Int) ((AT l i).1.toNat : Nat) = (n, 0)) := by
 have key : (AT l i).2 = 0 ∧ (k = 1 → (AT l i).1 = n) ∧ (2 ≤ k → scan (l.drop (AT l i).1.toNat) ((k - 1 : Nat) : Int) (AT l i).1 = (n, 0)) := by
  by_cases h1 : k = 1
  · subst h1
    have e : AT l i = scan (l.drop i) 1 i := by unfold AT; rw [Int.toNat_natCast]
    have h' : AT l i = (n, 0) := by rw [e]; exact h
    exact ⟨by rw [h'], fun _ => by rw [h'], fun h2 => by omega⟩
  · have e : (k : Int) = ((k - 1 : Nat) : Int) + 1 := by omega
    rw [e, Fb l i _ (by omega)] at h
    by_cases h2 : (AT l i).2 ≠ 0
    · rw [if_pos h2] at h; simp at h; exact absurd h.2 h2
    · rw [if_neg h2] at h
      exact ⟨by simpa using h2, fun h3 => absurd h3 h1, fun _ => h⟩
 have hb := BA l i key.1
 refine ⟨key.1, hb.1, hb.2, key.2.1, fun h2 => ?_⟩
 have := key.2.2 h2
 rwa [Int.toNat_of_nonneg (by omega)]

structure Parted (l : List Fo) (n j i : Nat) (out : List (List Fo)) : Prop where
 le : j ≤ n
 one : 1 ≤ i
 len : i ≤ l.length
 all : chunks l n 1 = out ++ chunks l (n - j) i
 more : j < n → scan (l.drop i) ((n - j : Nat) : Int) i = ((l.length : Int), 0)
 fin : j = n → i = l.length
 few : out.length ≤ i
end Go.Sp
namespace Go.Proofs
open Go.Shelf
def Tryz.laysM171_ren : Go.Shelf.Ren := ⟨fun | 171 => 29 | 243 => 55 | 246 => 95 | 283 => 129 | 284 => 130 | 285 => 131 | 286 => 132 | 129 => 161 | 317 => 160 | 318 => 162 | 319 => 163 | 320 => 164 | 337 => 182 | 338 => 183 | n => n, fun | 3 => 3 | 9 => 9 | 2 => 2 | 4 => 4 | 171 => 198 | 0 => 0 | 53 => 199 | 37 => 84 | 5 => 5 | 173 => 202 | 212 => 233 | 51 => 234 | 20 => 20 | 213 => 235 | 46 => 219 | 232 => 258 | 233 => 259 | n => n, fun | 17 => 4 | 18 => 8 | 19 => 9 | n => n⟩
theorem Tryz.laysM171 : Go.Proofs.LaysM.n171 Tryz.prog Tryz.laysM171_ren := {
 mixed := by kernel_rfl
 f129 := Tryz.func161.trans (congrArg some (by kernel_rfl))
 f171 := Tryz.func29.trans (congrArg some (by kernel_rfl))
 f243 := Tryz.func55.trans (congrArg some (by kernel_rfl))
 f246 := Tryz.func95.trans (congrArg some (by kernel_rfl))
 f283 := Tryz.func129.trans (congrArg some (by kernel_rfl))
 f284 := Tryz.func130.trans (congrArg some (by kernel_rfl))
 f285 := Tryz.func131.trans (congrArg some (by kernel_rfl))
 f286 := Tryz.func132.trans (congrArg some (by kernel_rfl))
 f317 := Tryz.func160.trans (congrArg some (by kernel_rfl))
 f318 := Tryz.func162.trans (congrArg some (by kernel_rfl))
 f319 := Tryz.func163.trans (congrArg some (by kernel_rfl))
 f320 := Tryz.func164.trans (congrArg some (by kernel_rfl))
 f337 := Tryz.func182.trans (congrArg some (by kernel_rfl))
 f338 := Tryz.func183.trans (congrArg some (by kernel_rfl))
 t0 := Tryz.underlying0
 a0 := Tryz.isAgg0
 z0 := Tryz.sizeOf0
 v0 := Tryz.zeroValue0
 t2 := Tryz.underlying2
 a2 := Tryz.isAgg2
 z2 := Tryz.sizeOf2
 v2 := Tryz.zeroValue2
 t3 := Tryz.underlying3
 a3 := Tryz.isAgg3
 z3 := Tryz.sizeOf3
 v3 := Tryz.zeroValue3
 t4 := Tryz.underlying4
 a4 := Tryz.isAgg4
 z4 := Tryz.sizeOf4
 v4 := Tryz.zeroValue4
 t5 := Tryz.underlying5
 a5 := Tryz.isAgg5
 z5 := Tryz.sizeOf5
 v5 := Tryz.zeroValue5
 t9 := Tryz.underlying9
 a9 := Tryz.isAgg9
 z9 := Tryz.sizeOf9
 v9 := Tryz.zeroValue9
 t20 := Tryz.underlying20
 a20 := Tryz.isAgg20
 z20 := Tryz.sizeOf20
 v20 := Tryz.zeroValue20
 t37 := Tryz.underlying84
 a37 := Tryz.isAgg84
 z37 := Tryz.sizeOf84
 v37 := Tryz.zeroValue84
 t46 := Tryz.underlying219
 a46 := Tryz.isAgg219
 z46 := Tryz.sizeOf219
 v46 := Tryz.zeroValue219
 t51 := Tryz.underlying234
 a51 := Tryz.isAgg234
 z51 := Tryz.sizeOf234
 v51 := Tryz.zeroValue234
 t53 := Tryz.underlying199
 a53 := Tryz.isAgg199
 z53 := Tryz.sizeOf199
 v53 := Tryz.zeroValue199
 t171 := Tryz.underlying198
 a171 := Tryz.isAgg198
 z171 := Tryz.sizeOf198
 v171 := Tryz.zeroValue198
 t173 := Tryz.underlying202
 a173 := Tryz.isAgg202
 z173 := Tryz.sizeOf202
 v173 := Tryz.zeroValue202
 t212 := Tryz.underlying233
 a212 := Tryz.isAgg233
 z212 := Tryz.sizeOf233
 v212 := Tryz.zeroValue233
 t213 := Tryz.underlying235
 a213 := Tryz.isAgg235
 z213 := Tryz.sizeOf235
 t232 := Tryz.underlying258
 a232 := Tryz.isAgg258
 z232 := Tryz.sizeOf258
 v232 := Tryz.zeroValue258
 t233 := Tryz.underlying259
 a233 := Tryz.isAgg259
 z233 := Tryz.sizeOf259
 v233 := Tryz.zeroValue259
 g17 := by kernel_rfl
 g18 := by kernel_rfl
 g19 := by kernel_rfl
 i0 := by kernel_rfl
 i2 := by kernel_rfl
 i3 := by kernel_rfl
 i4 := by kernel_rfl
 i5 := by kernel_rfl
 i9 := by kernel_rfl
 i20 := by kernel_rfl
 i37 := by kernel_rfl
 i46 := by kernel_rfl
 i51 := by kernel_rfl
 i53 := by kernel_rfl
 i171 := by kernel_rfl
 i173 := by kernel_rfl
 i212 := by kernel_rfl
 i232 := by kernel_rfl
 i233 := by kernel_rfl
 m17 := by kernel_rfl
 m18 := by kernel_rfl
 m19 := by kernel_rfl }
end Go.Proofs
namespace Go.Av
open Go Go.RowKit
theorem AV.rels_vals {w : World} {I : Nat → Prop} : ∀ {us vs : List Value}, AV.rels w I (us.map AV.val) vs → vs = us
 | [], [], _ => rfl
 | u :: us, v :: vs, ⟨h1, h2⟩ => by rw [AV.rels_vals h2, show v = u from h1]
theorem Lm {P : Program} {G : List (Nat × List D)} {f : FuncId} {us : List Value} {r : AV} {h : H}
 (hc : ∀ (w : World) (I : Nat → Prop), (∀ e ∈ h, e.rel w I) → (∀ q ∈ G, PD w I q.2 ⟨q.1, 0, none⟩) → Calls P f us.toArray w fun e w' => Below w.heap.size w w' ∧ ∃ v, e = .returned v ∧ AV.rel w' I r v) :
 AC P G f (us.map AV.val) h fun e h' => e = .ret r ∧ h' = h := by
 intro I W vs h1 h2 h3 h4 h5
 rw [AV.rels_vals h5]
 refine (hc W I h1 h4).mono ?_
 rintro e w' ⟨hb, v, rfl, hv⟩
 have same : ∀ b, b < W.heap.size → w'.heap[b]? = W.heap[b]? := hb.block
 refine ⟨.ret r, h, I, ⟨rfl, rfl⟩, ⟨fun e he => ?_, h2, fun b hI => ⟨Nat.lt_of_lt_of_le (h3 b hI).1 hb.size, (h3 b hI).2⟩, fun b hb' => .inl hb', fun b hI => .inl hI, fun b hI => hI, hb.os, hb.tape, hb.output, hb.size, fun b hlt _ => same b hlt, fun q hq => ?_⟩, hv⟩
 · exact Ent.rel_mono (fun b hI => same b (h3 b hI).1) (fun b hI => hI) (fun b hb' => same b (Ent.blk_lt (h1 e he) hb')) (h1 e he)
 · exact PD.mono (fun b hI => same b (h3 b hI).1) (fun b hI => hI) (h4 q hq)
theorem KD {P : Program} {G : List (Nat × List D)} {f : FuncId} {us : List Value} {r : Value}
 (hc : ∀ (w : World) (I : Nat → Prop), (∀ q ∈ G, PD w I q.2 ⟨q.1, 0, none⟩) → Calls P f us.toArray w fun e w' => e = .returned r ∧ Below w.heap.size w w') :
 ACr P G f (us.map AV.val) (.val r) :=
 Lm fun w I _ hg => (hc w I hg).mono fun _ _ ⟨e, hb⟩ => ⟨hb, r, e, rfl⟩
theorem Kq (w : World) (n : Nat) (os : Array Obj) : Below w.heap.size w (Go.Sort.grow (w.drewN n) os) := ⟨rfl, rfl, rfl, by unfold Go.Sort.grow World.drewN; simp, fun k hk => by unfold Go.Sort.grow World.drewN; simp only; rw [Array.getElem?_append_left hk]⟩
theorem Wl {P : Program} {G : List (Nat × List D)} {f : FuncId} {us : List Value} {T : TypeId} {l : List ByteArray} (h0 : 0 < l.length) (hm : l.length ≤ 8796093022208)
 (hc : ∀ (w : World) (I : Nat → Prop), (∀ q ∈ G, PD w I q.2 ⟨q.1, 0, none⟩) → Calls P f us.toArray w fun e w' => e = .returned (.slice (some ⟨w.heap.size, 0, none⟩) l.length l.length) ∧ w' = w.alloc (.cells (l.map Value.string).toArray T)) :
 ACr P G f (us.map AV.val) (.d (.l 1 16 (l.map fun s => [.s s]))) := by
 intro I W vs h1 h2 h3 h4 h5
 rw [AV.rels_vals h5]
 refine (hc W I h4).mono ?_
 rintro e w' ⟨rfl, rfl⟩
 have hb : Below W.heap.size W (W.alloc (.cells (l.map Value.string).toArray T)) := (Below.refl _ W).alloc (Nat.le_refl _) _
 have same : ∀ b, b < W.heap.size → (W.alloc (.cells (l.map Value.string).toArray T)).heap[b]? = W.heap[b]? := hb.block
 have new : (W.alloc (.cells (l.map Value.string).toArray T)).heap[W.heap.size]? = some (.cells (l.map Value.string).toArray T) := World.alloc_heap_new W _
 have hlt : W.heap.size < (W.alloc (.cells (l.map Value.string).toArray T)).heap.size := (Array.getElem?_eq_some_iff.1 new).1
 refine ⟨.ret _, [], fun b => I b ∨ b = W.heap.size, ⟨rfl, rfl⟩, ⟨fun e he => (by cases he), h2, fun b hI => ⟨?_, by simp [blks]⟩, fun b hb' => (by cases hb'), fun b hI => ?_, fun b hI => .inl hI, hb.os, hb.tape, hb.output, hb.size, fun b hl _ => same b hl, fun q hq => ?_⟩, ?_⟩
 · rcases hI with hI | rfl
   · exact Nat.lt_trans (h3 b hI).1 hlt
   · exact hlt
 · rcases hI with hI | rfl
   · exact .inl hI
   · exact .inr (.inr (Nat.le_refl _))
 · exact PD.mono (fun b hI => same b (h3 b hI).1) (fun b hI => .inl hI) (h4 q hq)
 · show Rel _ _ _ _
   have k := Rel.l (w := W.alloc (.cells (l.map Value.string).toArray T)) (I := fun b => I b ∨ b = W.heap.size) 1 16 (l.map fun s => [.s s]) ⟨W.heap.size, 0, none⟩ l.length (fun j _ => .string ((l[j]?).getD .empty)) (.inr rfl)
    (by simp) (by simp only [maxLen]; omega) (by rw [List.length_map]; omega) (fun r hr => by obtain ⟨s, _, rfl⟩ := List.mem_map.1 hr; rfl) (fun j u r x hr hx => by
     rw [List.getElem?_map] at hr
     cases e : l[j]? with
     | none => rw [e] at hr; cases hr
     | some s =>
       rw [e, Option.map_some, Option.some.injEq] at hr
       subst hr
       cases u with
       | zero =>
         rw [Option.getD_some]
         have ea : (⟨W.heap.size, 0, none⟩ : Addr).add (j * 1 + 0) = ⟨W.heap.size, j, none⟩ := by simp [Addr.add]; omega
         rw [ea]
         unfold World.cell?
         simp only
         rw [new]
         simp [e]
       | succ u => simp at hx) (fun j u r x hr hx => by
     rw [List.getElem?_map] at hr
     cases e : l[j]? with
     | none => rw [e] at hr; cases hr
     | some s =>
       rw [e, Option.map_some, Option.some.injEq] at hr
       subst hr
       cases u with
       | zero =>
         simp only [List.getElem?_cons_zero, Option.some.injEq] at hx
         subst hx
         exact .s s
       | succ u => simp at hx)
   rw [List.length_map] at k
   exact k
end Go.Av
namespace Go.Sp
open Go.Av

theorem LS {l : List Fo} {i : Nat} {w : Int} {e : Int} (hw : 1 ≤ w) (h : scan (l.drop i) w i = (e, 0)) : (AT l i).2 = 0 ∧ (AT l i).1 ≤ e := by
 by_cases h1 : w = 1
 · subst h1
   have he : AT l i = scan (l.drop i) 1 i := by unfold AT; rw [Int.toNat_natCast]
   rw [he, h]; exact ⟨rfl, Int.le_refl _⟩
 · have hw' : w = (w - 1) + 1 := by omega
   rw [hw', Fb l i (w - 1) (by omega)] at h
   by_cases h2 : (AT l i).2 ≠ 0
   · rw [if_pos h2] at h; simp at h; exact absurd h.2 h2
   rw [if_neg h2] at h
   have hb := BA l i (by simpa using h2)
   have := DF (l.drop (AT l i).1.toNat) (w - 1) (AT l i).1 (by rw [h])
   rw [h] at this
   exact ⟨by simpa using h2, by dsimp only at this; omega⟩

theorem Jv (l : List Fo) : ∀ (m i : Nat) (w : Int) (e : Int), l.length ≤ i + m → 1 ≤ w → scan (l.drop i) w i = (e, 0) → ∀ k : Nat, i ≤ k → (k : Int) < e → (AT l k).2 = 0 ∧ (AT l k).1 ≤ e
 | 0, i, w, e, hm, hw, h, k, h1, h2 => by
   rw [List.drop_eq_nil_of_le (by omega)] at h; simp [scan] at h
 | m + 1, i, w, e, hm, hw, h, k, h1, h2 => by
   by_cases hk : k = i
   · subst hk; exact LS hw h
   by_cases hi : i < l.length
   · rw [List.drop_eq_getElem_cons hi, B3] at h
     have hp := Dj l[i].kind
     by_cases h3 : (partsOf l[i].kind).2 ≠ 0
     · rw [if_pos h3] at h; simp at h; exact absurd h.2 h3
     rw [if_neg h3] at h
     by_cases h4 : w + (partsOf l[i].kind).1 - 1 = 0
     · rw [if_pos h4] at h; simp at h; omega
     · rw [if_neg h4] at h
       exact Jv l m (i + 1) _ e (by omega) (by omega) h k (by omega) h2
   · rw [List.drop_eq_nil_of_le (by omega)] at h; simp [scan] at h

end Go.Sp
namespace Go.Proofs
open Go.Shelf
def Tryz.laysM146_ren : Go.Shelf.Ren := ⟨fun | 146 => 14 | 221 => 41 | 268 => 75 | 138 => 76 | 143 => 77 | 195 => 116 | 197 => 117 | 218 => 118 | 219 => 119 | 260 => 148 | 217 => 71 | 225 => 149 | 224 => 150 | 267 => 151 | 266 => 109 | 314 => 179 | n => n, fun | 9 => 9 | 31 => 62 | 3 => 3 | 4 => 4 | 0 => 0 | 105 => 188 | 21 => 21 | 5 => 5 | 46 => 219 | 119 => 246 | 139 => 249 | 138 => 248 | 146 => 250 | 51 => 234 | n => n, fun | 1 => 1 | 3 => 5 | 4 => 6 | n => n⟩
theorem Tryz.laysM146 : Go.Proofs.LaysM.n146 Tryz.prog Tryz.laysM146_ren := {
 mixed := by kernel_rfl
 f138 := Tryz.func76.trans (congrArg some (by kernel_rfl))
 f143 := Tryz.func77.trans (congrArg some (by kernel_rfl))
 f146 := Tryz.func14.trans (congrArg some (by kernel_rfl))
 f195 := Tryz.func116.trans (congrArg some (by kernel_rfl))
 f197 := Tryz.func117.trans (congrArg some (by kernel_rfl))
 f217 := Tryz.func71.trans (congrArg some (by kernel_rfl))
 f218 := Tryz.func118.trans (congrArg some (by kernel_rfl))
 f219 := Tryz.func119.trans (congrArg some (by kernel_rfl))
 f221 := Tryz.func41.trans (congrArg some (by kernel_rfl))
 f224 := Tryz.func150.trans (congrArg some (by kernel_rfl))
 f225 := Tryz.func149.trans (congrArg some (by kernel_rfl))
 f260 := Tryz.func148.trans (congrArg some (by kernel_rfl))
 f266 := Tryz.func109.trans (congrArg some (by kernel_rfl))
 f267 := Tryz.func151.trans (congrArg some (by kernel_rfl))
 f268 := Tryz.func75.trans (congrArg some (by kernel_rfl))
 f314 := Tryz.func179.trans (congrArg some (by kernel_rfl))
 t0 := Tryz.underlying0
 a0 := Tryz.isAgg0
 z0 := Tryz.sizeOf0
 v0 := Tryz.zeroValue0
 t3 := Tryz.underlying3
 a3 := Tryz.isAgg3
 z3 := Tryz.sizeOf3
 v3 := Tryz.zeroValue3
 t4 := Tryz.underlying4
 a4 := Tryz.isAgg4
 z4 := Tryz.sizeOf4
 v4 := Tryz.zeroValue4
 t5 := Tryz.underlying5
 a5 := Tryz.isAgg5
 z5 := Tryz.sizeOf5
 v5 := Tryz.zeroValue5
 t9 := Tryz.underlying9
 a9 := Tryz.isAgg9
 z9 := Tryz.sizeOf9
 v9 := Tryz.zeroValue9
 t21 := Tryz.underlying21
 a21 := Tryz.isAgg21
 z21 := Tryz.sizeOf21
 v21 := Tryz.zeroValue21
 t31 := Tryz.underlying62
 a31 := Tryz.isAgg62
 z31 := Tryz.sizeOf62
 v31 := Tryz.zeroValue62
 t46 := Tryz.underlying219
 a46 := Tryz.isAgg219
 z46 := Tryz.sizeOf219
 v46 := Tryz.zeroValue219
 t51 := Tryz.underlying234
 a51 := Tryz.isAgg234
 z51 := Tryz.sizeOf234
 v51 := Tryz.zeroValue234
 t105 := Tryz.underlying188
 a105 := Tryz.isAgg188
 z105 := Tryz.sizeOf188
 v105 := Tryz.zeroValue188
 t119 := Tryz.underlying246
 a119 := Tryz.isAgg246
 z119 := Tryz.sizeOf246
 t138 := Tryz.underlying248
 a138 := Tryz.isAgg248
 z138 := Tryz.sizeOf248
 v138 := Tryz.zeroValue248
 t139 := Tryz.underlying249
 a139 := Tryz.isAgg249
 z139 := Tryz.sizeOf249
 v139 := Tryz.zeroValue249
 t146 := Tryz.underlying250
 a146 := Tryz.isAgg250
 z146 := Tryz.sizeOf250
 v146 := Tryz.zeroValue250
 g1 := by kernel_rfl
 g3 := by kernel_rfl
 g4 := by kernel_rfl
 i0 := by kernel_rfl
 i3 := by kernel_rfl
 i4 := by kernel_rfl
 i5 := by kernel_rfl
 i9 := by kernel_rfl
 i21 := by kernel_rfl
 i31 := by kernel_rfl
 i46 := by kernel_rfl
 i51 := by kernel_rfl
 i105 := by kernel_rfl
 i138 := by kernel_rfl
 i139 := by kernel_rfl
 i146 := by kernel_rfl
 m1 := by kernel_rfl
 s1_3 := fun w h => Go.Proofs.cell_of_shapedOpen_int (zero := #[.int .i64 0]) (t := 3) h (of_decide_eq_true (by kernel_rfl)) (by kernel_rfl) rfl (by kernel_rfl) (by kernel_rfl) Tryz.underlying3
 m3 := by kernel_rfl
 m4 := by kernel_rfl }
def Tryz.lays102_ren : Go.Shelf.Ren := ⟨fun | 102 => 15 | 209 => 42 | 207 => 78 | n => n, fun | 9 => 9 | 4 => 4 | 3 => 3 | n => n, fun | n => n⟩
theorem Tryz.lays102 : Go.Proofs.Lays.n102 Tryz.prog Tryz.lays102_ren := {
 mixed := by kernel_rfl
 f102 := Tryz.func15.trans (congrArg some (by kernel_rfl))
 f207 := Tryz.func78.trans (congrArg some (by kernel_rfl))
 f209 := Tryz.func42.trans (congrArg some (by kernel_rfl))
 t3 := Tryz.underlying3
 a3 := Tryz.isAgg3
 z3 := Tryz.sizeOf3
 v3 := Tryz.zeroValue3
 t4 := Tryz.underlying4
 a4 := Tryz.isAgg4
 z4 := Tryz.sizeOf4
 v4 := Tryz.zeroValue4
 t9 := Tryz.underlying9
 a9 := Tryz.isAgg9
 z9 := Tryz.sizeOf9
 v9 := Tryz.zeroValue9 }
def Tryz.lays103_ren : Go.Shelf.Ren := ⟨fun | 103 => 115 | 210 => 147 | 206 => 178 | n => n, fun | 9 => 9 | 4 => 4 | 24 => 186 | 3 => 3 | n => n, fun | n => n⟩
theorem Tryz.lays103 : Go.Proofs.Lays.n103 Tryz.prog Tryz.lays103_ren := {
 mixed := by kernel_rfl
 f103 := Tryz.func115.trans (congrArg some (by kernel_rfl))
 f206 := Tryz.func178.trans (congrArg some (by kernel_rfl))
 f210 := Tryz.func147.trans (congrArg some (by kernel_rfl))
 t3 := Tryz.underlying3
 a3 := Tryz.isAgg3
 z3 := Tryz.sizeOf3
 v3 := Tryz.zeroValue3
 t4 := Tryz.underlying4
 a4 := Tryz.isAgg4
 z4 := Tryz.sizeOf4
 v4 := Tryz.zeroValue4
 t9 := Tryz.underlying9
 a9 := Tryz.isAgg9
 z9 := Tryz.sizeOf9
 v9 := Tryz.zeroValue9
 t24 := Tryz.underlying186
 a24 := Tryz.isAgg186
 z24 := Tryz.sizeOf186
 v24 := Tryz.zeroValue186 }
def Tryz.lays137_ren : Go.Shelf.Ren := ⟨fun | 137 => 37 | 217 => 71 | 266 => 109 | n => n, fun | 9 => 9 | 5 => 5 | 3 => 3 | n => n, fun | n => n⟩
theorem Tryz.lays137 : Go.Proofs.Lays.n137 Tryz.prog Tryz.lays137_ren := {
 mixed := by kernel_rfl
 f137 := Tryz.func37.trans (congrArg some (by kernel_rfl))
 f217 := Tryz.func71.trans (congrArg some (by kernel_rfl))
 f266 := Tryz.func109.trans (congrArg some (by kernel_rfl))
 t3 := Tryz.underlying3
 a3 := Tryz.isAgg3
 z3 := Tryz.sizeOf3
 v3 := Tryz.zeroValue3
 t5 := Tryz.underlying5
 a5 := Tryz.isAgg5
 z5 := Tryz.sizeOf5
 v5 := Tryz.zeroValue5
 t9 := Tryz.underlying9
 a9 := Tryz.isAgg9
 z9 := Tryz.sizeOf9
 v9 := Tryz.zeroValue9 }
def Tryz.laysC172_ren : Go.Shelf.Ren := ⟨fun | 172 => 38 | 244 => 72 | 245 => 73 | 247 => 110 | 279 => 111 | 280 => 112 | 281 => 113 | 282 => 114 | 287 => 144 | 316 => 145 | 171 => 29 | 205 => 146 | 321 => 176 | 322 => 177 | 243 => 55 | 246 => 95 | 283 => 129 | 284 => 130 | 285 => 131 | 286 => 132 | 129 => 161 | 317 => 160 | 318 => 162 | 319 => 163 | 320 => 164 | 337 => 182 | 338 => 183 | n => n, fun | 9 => 9 | 3 => 3 | 75 => 88 | 76 => 89 | 4 => 4 | 5 => 5 | 167 => 180 | 37 => 84 | 0 => 0 | 85 => 181 | 2 => 2 | 168 => 183 | 53 => 199 | 175 => 217 | 46 => 219 | 210 => 222 | 127 => 125 | 145 => 245 | 143 => 243 | 21 => 21 | 171 => 198 | 173 => 202 | 212 => 233 | 51 => 234 | 20 => 20 | 213 => 235 | 232 => 258 | 233 => 259 | 80 => 95 | n => n, fun | 15 => 2 | 16 => 3 | 17 => 4 | 18 => 8 | 19 => 9 | n => n⟩
theorem Tryz.laysC172 : Go.Proofs.LaysC.n172 Tryz.prog Tryz.laysC172_ren := {
 mixed := by kernel_rfl
 f129 := Tryz.func161.trans (congrArg some (by kernel_rfl))
 f171 := Tryz.func29.trans (congrArg some (by kernel_rfl))
 f172 := Tryz.func38.trans (congrArg some (by kernel_rfl))
 f205 := Tryz.func146.trans (congrArg some (by kernel_rfl))
 f243 := Tryz.func55.trans (congrArg some (by kernel_rfl))
 f244 := Tryz.func72.trans (congrArg some (by kernel_rfl))
 f245 := Tryz.func73.trans (congrArg some (by kernel_rfl))
 f246 := Tryz.func95.trans (congrArg some (by kernel_rfl))
 f247 := Tryz.func110.trans (congrArg some (by kernel_rfl))
 f279 := Tryz.func111.trans (congrArg some (by kernel_rfl))
 f280 := Tryz.func112.trans (congrArg some (by kernel_rfl))
 f281 := Tryz.func113.trans (congrArg some (by kernel_rfl))
 f282 := Tryz.func114.trans (congrArg some (by kernel_rfl))
 f283 := Tryz.func129.trans (congrArg some (by kernel_rfl))
 f284 := Tryz.func130.trans (congrArg some (by kernel_rfl))
 f285 := Tryz.func131.trans (congrArg some (by kernel_rfl))
 f286 := Tryz.func132.trans (congrArg some (by kernel_rfl))
 f287 := Tryz.func144.trans (congrArg some (by kernel_rfl))
 f316 := Tryz.func145.trans (congrArg some (by kernel_rfl))
 f317 := Tryz.func160.trans (congrArg some (by kernel_rfl))
 f318 := Tryz.func162.trans (congrArg some (by kernel_rfl))
 f319 := Tryz.func163.trans (congrArg some (by kernel_rfl))
 f320 := Tryz.func164.trans (congrArg some (by kernel_rfl))
 f321 := Tryz.func176.trans (congrArg some (by kernel_rfl))
 f322 := Tryz.func177.trans (congrArg some (by kernel_rfl))
 f337 := Tryz.func182.trans (congrArg some (by kernel_rfl))
 f338 := Tryz.func183.trans (congrArg some (by kernel_rfl))
 t0 := Tryz.underlying0
 a0 := Tryz.isAgg0
 z0 := Tryz.sizeOf0
 v0 := Tryz.zeroValue0
 t2 := Tryz.underlying2
 a2 := Tryz.isAgg2
 z2 := Tryz.sizeOf2
 v2 := Tryz.zeroValue2
 t3 := Tryz.underlying3
 a3 := Tryz.isAgg3
 z3 := Tryz.sizeOf3
 v3 := Tryz.zeroValue3
 t4 := Tryz.underlying4
 a4 := Tryz.isAgg4
 z4 := Tryz.sizeOf4
 v4 := Tryz.zeroValue4
 t5 := Tryz.underlying5
 a5 := Tryz.isAgg5
 z5 := Tryz.sizeOf5
 v5 := Tryz.zeroValue5
 t9 := Tryz.underlying9
 a9 := Tryz.isAgg9
 z9 := Tryz.sizeOf9
 v9 := Tryz.zeroValue9
 t20 := Tryz.underlying20
 a20 := Tryz.isAgg20
 z20 := Tryz.sizeOf20
 v20 := Tryz.zeroValue20
 t21 := Tryz.underlying21
 a21 := Tryz.isAgg21
 z21 := Tryz.sizeOf21
 v21 := Tryz.zeroValue21
 t37 := Tryz.underlying84
 a37 := Tryz.isAgg84
 z37 := Tryz.sizeOf84
 v37 := Tryz.zeroValue84
 t46 := Tryz.underlying219
 a46 := Tryz.isAgg219
 z46 := Tryz.sizeOf219
 v46 := Tryz.zeroValue219
 t51 := Tryz.underlying234
 a51 := Tryz.isAgg234
 z51 := Tryz.sizeOf234
 v51 := Tryz.zeroValue234
 t53 := Tryz.underlying199
 a53 := Tryz.isAgg199
 z53 := Tryz.sizeOf199
 v53 := Tryz.zeroValue199
 t75 := Tryz.underlying88
 a75 := Tryz.isAgg88
 z75 := Tryz.sizeOf88
 v75 := Tryz.zeroValue88
 t76 := Tryz.underlying89
 a76 := Tryz.isAgg89
 z76 := Tryz.sizeOf89
 v76 := Tryz.zeroValue89
 t85 := Tryz.underlying181
 a85 := Tryz.isAgg181
 z85 := Tryz.sizeOf181
 v85 := Tryz.zeroValue181
 t127 := Tryz.underlying125
 a127 := Tryz.isAgg125
 z127 := Tryz.sizeOf125
 v127 := Tryz.zeroValue125
 t143 := Tryz.underlying243
 a143 := Tryz.isAgg243
 z143 := Tryz.sizeOf243
 v143 := Tryz.zeroValue243
 t145 := Tryz.underlying245
 a145 := Tryz.isAgg245
 z145 := Tryz.sizeOf245
 v145 := Tryz.zeroValue245
 t167 := Tryz.underlying180
 a167 := Tryz.isAgg180
 z167 := Tryz.sizeOf180
 v167 := Tryz.zeroValue180
 t168 := Tryz.underlying183
 a168 := Tryz.isAgg183
 z168 := Tryz.sizeOf183
 v168 := Tryz.zeroValue183
 t171 := Tryz.underlying198
 a171 := Tryz.isAgg198
 z171 := Tryz.sizeOf198
 v171 := Tryz.zeroValue198
 t173 := Tryz.underlying202
 a173 := Tryz.isAgg202
 z173 := Tryz.sizeOf202
 v173 := Tryz.zeroValue202
 t175 := Tryz.underlying217
 a175 := Tryz.isAgg217
 z175 := Tryz.sizeOf217
 v175 := Tryz.zeroValue217
 t210 := Tryz.underlying222
 a210 := Tryz.isAgg222
 z210 := Tryz.sizeOf222
 v210 := Tryz.zeroValue222
 t212 := Tryz.underlying233
 a212 := Tryz.isAgg233
 z212 := Tryz.sizeOf233
 v212 := Tryz.zeroValue233
 t213 := Tryz.underlying235
 a213 := Tryz.isAgg235
 z213 := Tryz.sizeOf235
 t232 := Tryz.underlying258
 a232 := Tryz.isAgg258
 z232 := Tryz.sizeOf258
 v232 := Tryz.zeroValue258
 t233 := Tryz.underlying259
 a233 := Tryz.isAgg259
 z233 := Tryz.sizeOf259
 v233 := Tryz.zeroValue259
 g15 := by kernel_rfl
 g16 := by kernel_rfl
 g17 := by kernel_rfl
 g18 := by kernel_rfl
 g19 := by kernel_rfl
 t80 := Tryz.underlying95
 a80 := Tryz.isAgg95
 z80 := Tryz.sizeOf95
 v80 := Tryz.zeroValue95
 i0 := by kernel_rfl
 i2 := by kernel_rfl
 i3 := by kernel_rfl
 i4 := by kernel_rfl
 i5 := by kernel_rfl
 i9 := by kernel_rfl
 i20 := by kernel_rfl
 i21 := by kernel_rfl
 i37 := by kernel_rfl
 i46 := by kernel_rfl
 i51 := by kernel_rfl
 i53 := by kernel_rfl
 i75 := by kernel_rfl
 i76 := by kernel_rfl
 i80 := by kernel_rfl
 i85 := by kernel_rfl
 i127 := by kernel_rfl
 i143 := by kernel_rfl
 i145 := by kernel_rfl
 i167 := by kernel_rfl
 i168 := by kernel_rfl
 i171 := by kernel_rfl
 i173 := by kernel_rfl
 i175 := by kernel_rfl
 i210 := by kernel_rfl
 i212 := by kernel_rfl
 i232 := by kernel_rfl
 i233 := by kernel_rfl
 m15 := by kernel_rfl
 m16 := by kernel_rfl
 m17 := by kernel_rfl
 m18 := by kernel_rfl
 m19 := by kernel_rfl
 c0 := by kernel_rfl
 c2 := by kernel_rfl
 c3 := by kernel_rfl
 c4 := by kernel_rfl
 c5 := by kernel_rfl
 c9 := by kernel_rfl
 c20 := by kernel_rfl
 c21 := by kernel_rfl
 c37 := by kernel_rfl
 c46 := by kernel_rfl
 c51 := by kernel_rfl
 c53 := by kernel_rfl
 c75 := by kernel_rfl
 c76 := by kernel_rfl
 c80 := by kernel_rfl
 c85 := by kernel_rfl
 c127 := by kernel_rfl
 c143 := by kernel_rfl
 c145 := by kernel_rfl
 c167 := by kernel_rfl
 c168 := by kernel_rfl
 c171 := by kernel_rfl
 c173 := by kernel_rfl
 c175 := by kernel_rfl
 c210 := by kernel_rfl
 c212 := by kernel_rfl
 c213 := by kernel_rfl
 c232 := by kernel_rfl
 c233 := by kernel_rfl }
end Go.Proofs
namespace Go.Sp
open Go Go.Av

structure La where
 stop : Nat → Bool
 val : Nat → Bool
 nxt : Nat → Nat
 base : Bool
def La.step (a : La) (i : Nat) (x : Bool) : Bool := if a.stop i then a.val i else x
def La.up (a : La) : Nat → Nat → Bool
 | 0, _ => a.base
 | k + 1, i => a.step i (a.up k (a.nxt i))
theorem La.step_mono (a : La) {i : Nat} (h : a.step i a.base ≠ a.base) (x : Bool) : a.step i x ≠ a.base := by
 unfold La.step at h ⊢
 by_cases c : a.stop i
 · rw [if_pos c] at h ⊢; exact h
 · rw [if_neg c] at h; exact absurd rfl h
structure La.On (a : La) (row : Nat → Bool) : Prop where
 sound : ∀ i, row i ≠ a.base → ∃ k, a.up k i ≠ a.base
 fore : ∀ i, row i ≠ a.base → a.step i (row (a.nxt i)) ≠ a.base
theorem JZ {a b c : Bool} (h : a ≠ c) (h' : b ≠ c) : a = b := by revert h h'; cases a <;> cases b <;> cases c <;> decide
theorem La.rest {a : La} {row : Nat → Bool} {N : Nat} (hcl : ∀ i, i < N → a.nxt i < N) (h : ∀ i, i < N → row i = a.step i (row (a.nxt i))) : ∀ (k i : Nat), i < N → a.up k i ≠ a.base → row i ≠ a.base
 | 0, _, _, hk => absurd rfl hk
 | k + 1, i, hi, hk => by
   rw [h i hi]
   rw [La.up] at hk
   by_cases c : a.up k (a.nxt i) = a.base
   · rw [c] at hk; exact a.step_mono hk _
   · rw [JZ (La.rest hcl h k _ (hcl i hi) c) c]; exact hk
theorem La.On.done {a : La} {row : Nat → Bool} {N : Nat} (h : a.On row) (hcl : ∀ i, i < N → a.nxt i < N) (hr : ∀ i, i < N → row i = a.step i (row (a.nxt i))) {i : Nat} (hi : i < N) : row i ≠ a.base ↔ ∃ k, a.up k i ≠ a.base :=
 ⟨h.sound i, fun ⟨k, hk⟩ => La.rest hcl hr k i hi hk⟩
def La.itr (a : La) : Nat → Nat → Nat
 | 0, i => i
 | k + 1, i => a.itr k (a.nxt i)
theorem La.itr_add (a : La) : ∀ (j k i : Nat), a.itr (j + k) i = a.itr k (a.itr j i)
 | 0, k, i => by rw [Nat.zero_add]; rfl
 | j + 1, k, i => by rw [Nat.succ_add]; exact La.itr_add a j k (a.nxt i)
theorem La.up_skip (a : La) : ∀ (j m i : Nat), (∀ j', j' < j → ¬ a.stop (a.itr j' i)) → a.up (j + m) i = a.up m (a.itr j i)
 | 0, m, i, _ => by rw [Nat.zero_add]; rfl
 | j + 1, m, i, h => by
   have h0 : ¬ a.stop i := h 0 (by omega)
   rw [Nat.succ_add, La.up, La.step, if_neg h0]
   exact La.up_skip a j m (a.nxt i) fun j' hj => h (j' + 1) (by omega)
theorem La.up_first (a : La) : ∀ (k i : Nat), a.up k i ≠ a.base → ∃ j, j < k ∧ a.stop (a.itr j i) ∧ ∀ j', j' < j → ¬ a.stop (a.itr j' i)
 | 0, _, h => absurd rfl h
 | k + 1, i, h => by
   by_cases c : a.stop i
   · exact ⟨0, by omega, c, fun _ h => by omega⟩
   · rw [La.up, La.step, if_neg c] at h
     obtain ⟨j, h1, h2, h3⟩ := La.up_first a k (a.nxt i) h
     refine ⟨j + 1, by omega, h2, fun j' hj => ?_⟩
     cases j' with
     | zero => exact c
     | succ j' => exact h3 j' (by omega)
theorem La.up_all (a : La) (N i : Nat) (hc : ∀ k, ∃ k', k' ≤ k ∧ k' ≤ N ∧ a.itr k' i = a.itr k i) : (∃ k, a.up k i ≠ a.base) ↔ a.up (N + 1) i ≠ a.base := by
 refine ⟨fun ⟨k, hk⟩ => ?_, fun h => ⟨_, h⟩⟩
 obtain ⟨j, h1, h2, h3⟩ := a.up_first k i hk
 obtain ⟨j', k1, k2, k3⟩ := hc j
 have hj : j ≤ N := by
  by_cases e : j' = j
  · omega
  · exact absurd (k3 ▸ h2) (h3 j' (by omega))
 obtain ⟨m, rfl⟩ : ∃ m, k = j + (m + 1) := ⟨k - j - 1, by omega⟩
 rw [La.up_skip a j (m + 1) i h3, La.up, La.step, if_pos h2] at hk
 rw [show N + 1 = j + ((N - j) + 1) by omega, La.up_skip a j _ i h3, La.up, La.step, if_pos h2]
 exact hk
def wnx (s N i : Nat) : Nat := if i + 1 < N then i + 1 else s
theorem La.itr_succ (a : La) (k i : Nat) : a.itr (k + 1) i = a.nxt (a.itr k i) := by rw [La.itr_add a k 1 i]; rfl
theorem La.itr_lt (a : La) {s N : Nat} (hn : a.nxt = wnx s N) (hs : s < N) {i : Nat} (hi : i < N) : ∀ k, a.itr k i < N
 | 0 => hi
 | k + 1 => by rw [La.itr_succ, hn, wnx]; split <;> omega
theorem La.itr_ge (a : La) {s N : Nat} (hn : a.nxt = wnx s N) (i : Nat) : ∀ k, i + k ≤ a.itr k i ∨ s ≤ a.itr k i
 | 0 => .inl (Nat.le_refl _)
 | k + 1 => by
   rw [La.itr_succ, hn, wnx]
   rcases La.itr_ge a hn i k with h | h <;> split <;> omega
theorem La.itr_loop (a : La) {s N : Nat} (hn : a.nxt = wnx s N) (hs : s < N) {p : Nat} (hp : s ≤ p) (hp' : p < N) : ∀ j, j ≤ N - s → a.itr j p = if p + j < N then p + j else p + j - (N - s)
 | 0, _ => by simp [La.itr, hp']
 | j + 1, hj => by
   rw [La.itr_succ, La.itr_loop a hn hs hp hp' j (by omega), hn, wnx]
   by_cases c1 : p + j < N
   · rw [if_pos c1]
     by_cases c2 : p + j + 1 < N
     · rw [if_pos c2, if_pos (by omega)]; omega
     · rw [if_neg c2, if_neg (by omega)]; omega
   · rw [if_neg c1, if_pos (by omega), if_neg (by omega)]; omega
theorem La.cover (a : La) {s N : Nat} (hn : a.nxt = wnx s N) (hs : s < N) {i : Nat} (hi : i < N) (k : Nat) : ∃ k', k' ≤ k ∧ k' ≤ N ∧ a.itr k' i = a.itr k i := by
 induction k using Nat.strongRecOn with
 | ind k ih =>
   by_cases c : k ≤ N
   · exact ⟨k, Nat.le_refl _, c, rfl⟩
   obtain ⟨k', h1, h2, h3⟩ := ih (k - (N - s)) (by omega)
   have hg : s ≤ a.itr (k - (N - s)) i := by have := La.itr_ge a hn i (k - (N - s)); omega
   have hl := La.itr_loop a hn hs hg (La.itr_lt a hn hs hi _) (N - s) (Nat.le_refl _)
   rw [← La.itr_add, if_neg (by omega), show k - (N - s) + (N - s) = k by omega] at hl
   exact ⟨k', by omega, h2, by rw [h3, hl]; omega⟩
theorem La.On.scan {a : La} {row : Nat → Bool} {s N : Nat} (h : a.On row) (hr : ∀ i, i < N → row i = a.step i (row (a.nxt i))) (hn : a.nxt = wnx s N) (hs : s < N) {i : Nat} (hi : i < N) : row i = a.up (N + 1) i := by
 have hcl : ∀ i, i < N → a.nxt i < N := fun i hi => by rw [hn, wnx]; split <;> omega
 have e := (h.done hcl hr hi).trans (a.up_all N i (a.cover hn hs hi))
 by_cases c : row i = a.base
 · by_cases c' : a.up (N + 1) i = a.base
   · rw [c, c']
   · exact absurd c (e.2 c')
 · exact JZ c (e.1 c)
open Go.Av

def IC (l : List Int) : List D := [AP l]
abbrev D9 (l : List (List Int)) : D := .l 1 24 (l.map IC)
def Po (n : Nat) : List D := [.i .i64 (n : Int)]
abbrev Af (l : List Nat) : D := .l 1 8 (l.map Po)
def Xi (l : List Nat) : List D := [Af l]
abbrev BJ (l : List (List Nat)) : D := .l 1 24 (l.map Xi)

structure Gr where
 spots : List Fo
 init : Int
 next : List (List Int)
 sets : List Int
 many : Int
def IE (g : Gr) : Prop := g.spots.length ≤ 20000 ∧ g.next.length = g.spots.length ∧ g.sets.length = g.spots.length ∧ 0 ≤ g.init ∧ g.init ≤ g.spots.length ∧ 0 ≤ g.many ∧ g.many ≤ 6
def Zg (g : Gr) (i : Nat) : Prop := (∀ (h : i < g.next.length), ∀ k ∈ g.next[i], 0 ≤ k ∧ k < g.spots.length) ∧ ∀ (h : i < g.sets.length), 0 ≤ g.sets[i] ∧ g.sets[i] < 2 ^ g.many.toNat
def okG (g : Gr) : Prop := IE g ∧ ∀ i, i < g.spots.length → Zg g i
noncomputable instance (g : Gr) : Decidable (okG g) := Classical.propDecidable _
noncomputable def KC (g : Gr) : Int := if okG g then 0 else 9

structure Gn where
 spots : List Fo
 init : Nat
 next : List (List Nat)
 sets : List Nat
 many : Nat
def Gn.gr (g : Gn) : Gr := ⟨g.spots, g.init, g.next.map (·.map fun k : Nat => (k : Int)), g.sets.map fun k : Nat => (k : Int), g.many⟩
structure Gn.ok (g : Gn) : Prop where
 size : g.spots.length ≤ 20000
 next : g.next.length = g.spots.length
 sets : g.sets.length = g.spots.length
 init : g.init ≤ g.spots.length
 many : g.many ≤ 6
 to_ : ∀ (i : Nat) (h : i < g.next.length), ∀ k ∈ g.next[i], k < g.spots.length
 bits : ∀ (i : Nat) (h : i < g.sets.length), g.sets[i] < 2 ^ g.many
theorem Fw (l : List Nat) : Af l = AP (l.map fun k : Nat => (k : Int)) := by
 unfold Af AP; rw [List.map_map]; rfl
theorem ZT (l : List (List Nat)) : BJ l = D9 (l.map (·.map fun k : Nat => (k : Int))) := by
 unfold BJ D9
 rw [List.map_map]
 congr 1
 refine List.map_congr_left fun x _ => ?_
 simp only [Xi, IC, Function.comp, Fw]
theorem JT {l : List Int} (h : ∀ k ∈ l, 0 ≤ k) : (l.map Int.toNat).map (fun k : Nat => (k : Int)) = l := by
 rw [List.map_map]
 conv => rhs; rw [← List.map_id l]
 refine List.map_congr_left fun k hk => ?_
 have := h k hk
 simp only [Function.comp, id]
 omega
theorem Ix {g : Gr} (h : okG g) : ∃ gn : Gn, gn.gr = g ∧ gn.ok := by
 obtain ⟨⟨h1, h2, h3, h4, h5, h6, h7⟩, h8⟩ := h
 refine ⟨⟨g.spots, g.init.toNat, g.next.map (·.map Int.toNat), g.sets.map Int.toNat, g.many.toNat⟩, ?_, ?_⟩
 · have e1 : (g.next.map (·.map Int.toNat)).map (·.map fun k : Nat => (k : Int)) = g.next := by
    rw [List.map_map]
    conv => rhs; rw [← List.map_id g.next]
    refine List.map_congr_left fun l hl => ?_
    obtain ⟨i, hi, rfl⟩ := List.getElem_of_mem hl
    exact JT fun k hk => ((h8 i (by omega)).1 hi k hk).1
   have e2 : (g.sets.map Int.toNat).map (fun k : Nat => (k : Int)) = g.sets := JT fun k hk => by
    obtain ⟨i, hi, rfl⟩ := List.getElem_of_mem hk
    exact ((h8 i (by omega)).2 hi).1
   unfold Gn.gr
   dsimp only
   rw [e1, e2, Int.toNat_of_nonneg h4, Int.toNat_of_nonneg h6]
 · refine ⟨h1, by simpa using h2, by simpa using h3, by dsimp only; omega, by dsimp only; omega, fun i hi k hk => ?_, fun i hi => ?_⟩
   · simp only [List.length_map] at hi
     simp only [List.getElem_map, List.mem_map] at hk
     obtain ⟨a, ha, rfl⟩ := hk
     have := (h8 i (by omega)).1 hi a ha
     dsimp only
     omega
   · simp only [List.length_map] at hi
     have := (h8 i (by omega)).2 hi
     simp only [List.getElem_map]
     have e : ((2 ^ g.many.toNat : Nat) : Int) = 2 ^ g.many.toNat := by exact_mod_cast rfl
     omega
theorem Gn.ok_gr {g : Gn} (h : g.ok) : okG g.gr := by
 refine ⟨⟨h.size, by simpa [Gn.gr] using h.next, by simpa [Gn.gr] using h.sets, by simp [Gn.gr], by have := h.init; simp only [Gn.gr]; omega, by simp [Gn.gr], by have := h.many; simp only [Gn.gr]; omega⟩, fun i _ => ⟨fun hi k hk => ?_, fun hi => ?_⟩⟩
 · simp only [Gn.gr, List.length_map] at hi
   simp only [Gn.gr, List.getElem_map, List.mem_map] at hk
   obtain ⟨a, ha, rfl⟩ := hk
   have := h.to_ i hi a ha
   simp only [Gn.gr]
   omega
 · simp only [Gn.gr, List.length_map] at hi
   have := h.bits i hi
   simp only [Gn.gr, List.getElem_map, Int.toNat_natCast]
   exact ⟨by omega, by exact_mod_cast this⟩
def Gn.nx (g : Gn) (i : Nat) : List Nat := (g.next[i]?).getD []
theorem Gn.nx_get (g : Gn) (i : Nat) (h : i < g.next.length) : g.nx i = g.next[i] := by simp [Gn.nx, List.getElem?_eq_getElem h]
theorem Gn.nx_lt {g : Gn} (h : g.ok) (i : Nat) : ∀ k ∈ g.nx i, k < g.spots.length := by
 intro k hk
 by_cases hi : i < g.next.length
 · rw [g.nx_get i hi] at hk; exact h.to_ i hi k hk
 · simp [Gn.nx, List.getElem?_eq_none (by omega : g.next.length ≤ i)] at hk

inductive Rch (nx : Nat → List Nat) : Nat → Nat → Prop where
 | refl (i : Nat) : Rch nx i i
 | step {i j k : Nat} (h : Rch nx i j) (e : k ∈ nx j) : Rch nx i k
theorem Rch.trans {nx : Nat → List Nat} {i j k : Nat} (h : Rch nx i j) (h2 : Rch nx j k) : Rch nx i k := by
 induction h2 with
 | refl => exact h
 | step _ e ih => exact .step ih e
theorem Rch.one {nx : Nat → List Nat} {i j : Nat} (e : j ∈ nx i) : Rch nx i j := .step (.refl i) e
theorem Rch.closed {nx : Nat → List Nat} {S : Nat → Prop} (hS : ∀ i, S i → ∀ k ∈ nx i, S k) {i j : Nat} (h : Rch nx i j) (hi : S i) : S j := by
 induction h with
 | refl => exact hi
 | step _ e ih => exact hS _ ih _ e
def Cu (g : Gn) (i : Nat) : Prop := ∃ j, j < g.init ∧ Rch g.nx j i
noncomputable instance (g : Gn) (i : Nat) : Decidable (Cu g i) := Classical.propDecidable _
noncomputable def CX (g : Gn) : List Bool := (List.range g.spots.length).map fun i => decide (Cu g i)

def gi (l : List Int) (i : Nat) : Int := (l[i]?).getD 0
theorem CM (l : List Int) (i : Nat) (h : i < l.length) : gi l i = l[i] := by simp [gi, List.getElem?_eq_getElem h]
theorem fU (l : List Int) (i : Nat) (h : l.length ≤ i) : gi l i = 0 := by simp [gi, List.getElem?_eq_none h]
theorem Dp (l : List Int) (i j : Nat) (v : Int) (h : i < l.length) : gi (l.set i v) j = if j = i then v else gi l j := by
 unfold gi
 by_cases e : j = i
 · subst e; rw [if_pos rfl, List.getElem?_set_self h]; rfl
 · rw [if_neg e, List.getElem?_set_ne (Ne.symm e)]

structure TS where
 order : List Int
 low : List Int
 part : List Int
 opn : List Nat
 calls : List (Nat × Nat)
 met : Nat

abbrev TS.F (s : TS) : List Nat := s.calls.map Prod.fst
def TS.enter (s : TS) (a : Nat) : TS := ⟨s.order.set a (s.met + 1), s.low.set a (s.met + 1), s.part, s.opn ++ [a], s.calls ++ [(a, 0)], s.met + 1⟩
def TS.low1 (s : TS) (a : Nat) : List Int :=
 match s.calls.dropLast.getLast? with
 | none => s.low
 | some p => s.low.set p.1 (min (gi s.low p.1) (gi s.low a))
def TS.pop (s : TS) (a : Nat) : TS := { s with low := s.low1 a, calls := s.calls.dropLast }
def leastOf (a : Nat) (C : List Nat) : Nat := C.foldl min a
def BB (p : List Int) (C : List Nat) (m : Nat) : List Int := C.foldl (fun p k => p.set k m) p
def TS.leave (s : TS) (a : Nat) : TS :=
 if gi (s.low1 a) a ≠ gi s.order a then s.pop a
 else { s.pop a with part := BB s.part (s.opn.drop (s.opn.idxOf a)) (Go.Sp.leastOf a (s.opn.drop (s.opn.idxOf a))), opn := s.opn.take (s.opn.idxOf a) }
def TS.next (s : TS) (a j : Nat) : TS := { s with calls := s.calls.dropLast ++ [(a, j + 1)] }
def TS.lower (s : TS) (a k : Nat) : TS := { s with low := s.low.set a (min (gi s.low a) (gi s.order k)) }
def TS.go (nx : Nat → List Nat) (s : TS) : TS :=
 match s.calls.getLast? with
 | none => s
 | some p =>
   if h : p.2 < (nx p.1).length then
    if gi s.order (nx p.1)[p.2] = 0 then (s.next p.1 p.2).enter (nx p.1)[p.2]
    else if gi s.part (nx p.1)[p.2] < 0 then (s.next p.1 p.2).lower p.1 (nx p.1)[p.2]
    else s.next p.1 p.2
   else s.leave p.1

def TS.done (nx : Nat → List Nat) (s : TS) (v w : Nat) : Prop := w ∈ nx v ∧ ∀ j, (v, j) ∈ s.calls → w ∈ (nx v).take j
def EL (nx : Nat → List Nat) (v : Nat) (m : Int) : Prop := ∃ k : Nat, m = k ∧ Rch nx v k ∧ Rch nx k v ∧ ∀ u, Rch nx v u → Rch nx u v → k ≤ u

structure BV (nx : Nat → List Nat) (n : Nat) (x : Option Nat) (s : TS) : Prop where
 lo : s.order.length = n
 ll : s.low.length = n
 lp : s.part.length = n
 om : ∀ v, 0 ≤ gi s.order v ∧ gi s.order v ≤ s.met
 pw : s.opn.Pairwise (fun a b => gi s.order a < gi s.order b)
 mem : ∀ v, v ∈ s.opn ↔ gi s.order v ≠ 0 ∧ gi s.part v < 0
 fpw : s.F.Pairwise (fun a b => gi s.order a < gi s.order b)
 fin : ∀ c ∈ s.F, c ∈ s.opn
 fj : ∀ p ∈ s.calls, p.2 ≤ (nx p.1).length
 bot : s.opn.head? = s.F.head?
 vis : ∀ v w, gi s.order v ≠ 0 → s.done nx v w → gi s.order w ≠ 0 ∨ x = some w
 dsc : ∀ c ∈ s.F, ∀ v ∈ s.opn, gi s.order c ≤ gi s.order v → Rch nx c v
 cls : ∀ v, gi s.order v ≠ 0 → 0 ≤ gi s.part v → ∀ w ∈ nx v, gi s.order w ≠ 0 ∧ 0 ≤ gi s.part w
 prt : ∀ v, gi s.order v ≠ 0 → 0 ≤ gi s.part v → EL nx v (gi s.part v)
 lwr : ∀ v ∈ s.opn, ∃ w ∈ s.opn, gi s.order w = gi s.low v ∧ Rch nx v w
 lwf : ∀ v ∈ s.opn, gi s.low v ≤ gi s.order v ∧ (v ∉ s.F → gi s.low v < gi s.order v)
 anc : ∀ c ∈ s.F, ∀ v ∈ s.opn, gi s.order c ≤ gi s.order v → (∀ q ∈ s.F, gi s.order q ≤ gi s.order v → gi s.order q ≤ gi s.order c) →
  gi s.low c ≤ gi s.low v ∧ ∀ w, s.done nx v w → w ∈ s.opn → gi s.low c ≤ gi s.order w
 pn : ∀ v, v < n → gi s.order v = 0 → gi s.part v = -1

section
variable {nx : Nat → List Nat} {n : Nat} {x : Option Nat} {s : TS}

theorem dk {l : List Nat} {f : Nat → Int} (h : l.Pairwise (fun a b => f a < f b)) : ∀ a ∈ l, ∀ b ∈ l, f a = f b → a = b := by
 induction l with
 | nil => intro a ha; cases ha
 | cons y l ih =>
   rw [List.pairwise_cons] at h
   intro a ha b hb e
   rcases List.mem_cons.1 ha with e1 | ha' <;> rcases List.mem_cons.1 hb with e2 | hb'
   · rw [e1, e2]
   · have := h.1 b hb'; rw [e1] at e; omega
   · have := h.1 a ha'; rw [e2] at e; omega
   · exact ih h.2 a ha' b hb' e
theorem BV.inj (t : BV nx n x s) {a b : Nat} (ha : a ∈ s.opn) (hb : b ∈ s.opn) (e : gi s.order a = gi s.order b) : a = b := dk t.pw a ha b hb e
theorem BV.lt (t : BV nx n x s) {v : Nat} (h : gi s.order v ≠ 0) : v < n := by
 rcases Nat.lt_or_ge v n with h' | h'
 · exact h'
 · exact absurd (fU s.order v (by rw [t.lo]; exact h')) h

theorem Ec {p : Nat × Nat} (h : s.calls.getLast? = some p) : s.calls = s.calls.dropLast ++ [p] := by
 obtain ⟨ys, e⟩ := List.getLast?_eq_some_iff.1 h
 rw [e]; simp
theorem O9 {p : Nat × Nat} (h : s.calls.getLast? = some p) : s.F = s.calls.dropLast.map Prod.fst ++ [p.1] := by
 have e := Ec h
 unfold TS.F
 conv => lhs; rw [e]
 simp
theorem Fz {p : Nat × Nat} (h : s.calls.getLast? = some p) : p ∈ s.calls := by rw [Ec h]; simp
theorem BV.last_le (t : BV nx n x s) {p : Nat × Nat} (h : s.calls.getLast? = some p) : ∀ c ∈ s.F, gi s.order c ≤ gi s.order p.1 := by
 intro c hc
 have hp := t.fpw
 rw [O9 h, List.pairwise_append] at hp
 rw [O9 h, List.mem_append] at hc
 rcases hc with hc | hc
 · have := hp.2.2 c hc p.1 (by simp); omega
 · rw [List.mem_singleton.1 hc]; exact Int.le_refl _
theorem BV.frame_uniq (t : BV nx n x s) {a i j : Nat} (h1 : (a, i) ∈ s.calls) (h2 : (a, j) ∈ s.calls) : i = j := by
 have key : ∀ l : List (Nat × Nat), (l.map Prod.fst).Pairwise (fun a b => gi s.order a < gi s.order b) → (a, i) ∈ l → (a, j) ∈ l → i = j := by
  intro l
  induction l with
  | nil => intro _ h; cases h
  | cons y l ih =>
    intro hp h1 h2
    rw [List.map_cons, List.pairwise_cons] at hp
    rcases List.mem_cons.1 h1 with h1 | h1 <;> rcases List.mem_cons.1 h2 with h2 | h2
    · rw [← h1] at h2; cases h2; rfl
    · have := hp.1 a (List.mem_map.2 ⟨_, h2, rfl⟩); rw [← h1] at this; dsimp only at this; omega
    · have := hp.1 a (List.mem_map.2 ⟨_, h1, rfl⟩); rw [← h2] at this; dsimp only at this; omega
    · exact ih hp.2 h1 h2
 exact key _ t.fpw h1 h2

theorem S8 {p : Nat × Nat} (h : s.calls.getLast? = some p) : (s.next p.1 p.2).F = s.F := by
 rw [O9 h]; simp [TS.next, TS.F]
theorem Hr (t : BV nx n x s) {p : Nat × Nat} (h : s.calls.getLast? = some p) (hj : p.2 < (nx p.1).length) {v w : Nat} (hd : (s.next p.1 p.2).done nx v w) : s.done nx v w ∨ (v = p.1 ∧ w = (nx p.1)[p.2]) := by
 obtain ⟨hw, hd⟩ := hd
 have e := Ec h
 by_cases hv : v = p.1
 · subst hv
   have hk := hd (p.2 + 1) (by simp [TS.next])
   rw [List.take_succ_eq_append_getElem hj] at hk
   rcases List.mem_append.1 hk with hk | hk
   · refine .inl ⟨hw, fun j hj' => ?_⟩
     rw [t.frame_uniq hj' (Fz h)]; exact hk
   · exact .inr ⟨rfl, by simpa using hk⟩
 · refine .inl ⟨hw, fun j hj' => hd j ?_⟩
   rw [e] at hj'
   rcases List.mem_append.1 hj' with hj' | hj'
   · simp [TS.next, hj']
   · rw [List.mem_singleton] at hj'; subst hj'; exact absurd rfl hv
theorem U9 (t : BV nx n x s) {p : Nat × Nat} (hj : p.2 < (nx p.1).length) : ∀ q ∈ (s.next p.1 p.2).calls, q.2 ≤ (nx q.1).length := by
 intro q hq
 simp only [TS.next, List.mem_append, List.mem_singleton] at hq
 rcases hq with hq | rfl
 · exact t.fj q (List.dropLast_subset _ hq)
 · exact hj
theorem BV.next (t : BV nx n none s) {p : Nat × Nat} (h : s.calls.getLast? = some p) (hj : p.2 < (nx p.1).length) (y : Option Nat) (hk : gi s.order (nx p.1)[p.2] ≠ 0 ∨ y = some (nx p.1)[p.2]) (ho : ¬ (nx p.1)[p.2] ∈ s.opn) :
 BV nx n y (s.next p.1 p.2) := by
 have eF := S8 (s := s) h
 refine { lo := t.lo, ll := t.ll, lp := t.lp, om := t.om, pw := t.pw, mem := t.mem, fpw := by rw [eF]; exact t.fpw, fin := by rw [eF]; exact t.fin, fj := U9 t hj, bot := by rw [eF]; exact t.bot, vis := ?_, dsc := by rw [eF]; exact t.dsc, cls := t.cls, prt := t.prt, lwr := t.lwr, lwf := by rw [eF]; exact t.lwf, anc := ?_, pn := t.pn }
 · intro v w hv hd
   rcases Hr t h hj hd with hd | ⟨rfl, rfl⟩
   · rcases t.vis v w hv hd with h1 | h1
     · exact .inl h1
     · cases h1
   · exact hk
 · rw [eF]
   intro c hc v hv h1 h2
   obtain ⟨q1, q2⟩ := t.anc c hc v hv h1 h2
   refine ⟨q1, fun w hd hw => ?_⟩
   rcases Hr t h hj hd with hd | ⟨rfl, rfl⟩
   · exact q2 w hd hw
   · exact absurd hw ho
theorem BV.lower (t : BV nx n none s) {p : Nat × Nat} (h : s.calls.getLast? = some p) (hj : p.2 < (nx p.1).length) (hk : (nx p.1)[p.2] ∈ s.opn) :
 BV nx n none ((s.next p.1 p.2).lower p.1 (nx p.1)[p.2]) := by
 have eF : ((s.next p.1 p.2).lower p.1 (nx p.1)[p.2]).F = s.F := S8 (s := s) h
 have hpF : p.1 ∈ s.F := List.mem_map.2 ⟨p, Fz h, rfl⟩
 have hpo := t.fin _ hpF
 have hlt : p.1 < s.low.length := by rw [t.ll]; exact t.lt ((t.mem _).1 hpo).1
 have el : ∀ v, gi ((s.next p.1 p.2).lower p.1 (nx p.1)[p.2]).low v = if v = p.1 then min (gi s.low p.1) (gi s.order (nx p.1)[p.2]) else gi s.low v := fun v => Dp _ _ _ _ hlt
 have hle : ∀ v, gi ((s.next p.1 p.2).lower p.1 (nx p.1)[p.2]).low v ≤ gi s.low v := fun v => by
  rw [el]; split
  · rename_i e; rw [e]; omega
  · exact Int.le_refl _
 refine { lo := t.lo, ll := by simp [TS.lower, TS.next, t.ll], lp := t.lp, om := t.om, pw := t.pw, mem := t.mem, fpw := by rw [eF]; exact t.fpw, fin := by rw [eF]; exact t.fin, fj := U9 t hj, bot := by rw [eF]; exact t.bot, vis := ?_, dsc := by rw [eF]; exact t.dsc, cls := t.cls, prt := t.prt, lwr := ?_, lwf := ?_, anc := ?_, pn := t.pn }
 · intro v w hv hd
   rcases Hr t h hj hd with hd | ⟨rfl, rfl⟩
   · exact t.vis v w hv hd
   · exact .inl ((t.mem _).1 hk).1
 · intro v hv
   show ∃ w ∈ s.opn, gi s.order w = _ ∧ _
   rw [el]
   by_cases e : v = p.1
   · rw [if_pos e]
     by_cases hm : gi s.low p.1 ≤ gi s.order (nx p.1)[p.2]
     · rw [Int.min_eq_left hm, e]; exact t.lwr _ hpo
     · rw [Int.min_eq_right (by omega), e]; exact ⟨_, hk, rfl, Rch.one (List.getElem_mem _)⟩
   · rw [if_neg e]; exact t.lwr v hv
 · intro v hv
   rw [eF]
   have q := t.lwf v hv
   have q' := hle v
   exact ⟨Int.le_trans q' q.1, fun hf => Int.lt_of_le_of_lt q' (q.2 hf)⟩
 · rw [eF]
   intro c hc v hv h1 h2
   obtain ⟨q1, q2⟩ := t.anc c hc v hv h1 h2
   have hcv : v = p.1 → c = p.1 := fun e => by
    have := h2 p.1 hpF (by rw [e]; exact Int.le_refl _)
    rw [e] at h1
    exact t.inj (t.fin c hc) hpo (Int.le_antisymm h1 this)
   have q' := hle c
   refine ⟨?_, fun w hd hw => ?_⟩
   · by_cases e : v = p.1
     · rw [hcv e, e]; exact Int.le_refl _
     · rw [el v, if_neg e]; omega
   · rcases Hr t h hj hd with hd | ⟨e, rfl⟩
     · have := q2 w hd hw
       show _ ≤ gi s.order w
       omega
     · rw [el c, if_pos (hcv e)]
       show _ ≤ gi s.order _
       omega

theorem BV.enter {k : Nat} (t : BV nx n (some k) s) (hk : k < n) (h0 : gi s.order k = 0) (hr : ∀ c ∈ s.F, Rch nx c k) : BV nx n none (s.enter k) := by
 have hko : k ∉ s.opn := fun h => ((t.mem k).1 h).1 h0
 have hkF : k ∉ s.F := fun h => hko (t.fin k h)
 have eo : ∀ v, gi (s.enter k).order v = if v = k then (s.met : Int) + 1 else gi s.order v := fun v => Dp _ _ _ _ (by rw [t.lo]; exact hk)
 have el : ∀ v, gi (s.enter k).low v = if v = k then (s.met : Int) + 1 else gi s.low v := fun v => Dp _ _ _ _ (by rw [t.ll]; exact hk)
 have eF : (s.enter k).F = s.F ++ [k] := by simp [TS.enter, TS.F]
 have eon : ∀ v, v ≠ k → gi (s.enter k).order v = gi s.order v := fun v h => by rw [eo, if_neg h]
 have eln : ∀ v, v ≠ k → gi (s.enter k).low v = gi s.low v := fun v h => by rw [el, if_neg h]
 have eok : gi (s.enter k).order k = (s.met : Int) + 1 := by rw [eo, if_pos rfl]
 have elk : gi (s.enter k).low k = (s.met : Int) + 1 := by rw [el, if_pos rfl]
 have hne : ∀ v ∈ s.opn, v ≠ k := fun v hv e => hko (e ▸ hv)
 have hop : ∀ v, v ∈ (s.enter k).opn ↔ v ∈ s.opn ∨ v = k := fun v => by simp [TS.enter]
 have hF : ∀ v, v ∈ (s.enter k).F ↔ v ∈ s.F ∨ v = k := fun v => by rw [eF]; simp
 have hd : ∀ v w, (s.enter k).done nx v w → v ≠ k ∧ s.done nx v w := fun v w ⟨h1, h2⟩ => by
  refine ⟨fun e => ?_, h1, fun j hj => h2 j (by simp [TS.enter, hj])⟩
  have := h2 0 (by simp [TS.enter, e])
  simp at this
 refine { lo := by simp [TS.enter, t.lo], ll := by simp [TS.enter, t.ll], lp := t.lp, om := ?_, pw := ?_, mem := ?_, fpw := ?_, fin := ?_, fj := ?_, bot := ?_, vis := ?_, dsc := ?_, cls := ?_, prt := ?_, lwr := ?_, lwf := ?_, anc := ?_, pn := ?_ }
 · intro v
   show 0 ≤ _ ∧ _ ≤ ((s.met + 1 : Nat) : Int)
   have := t.om v
   rw [eo]; split <;> omega
 · show (s.opn ++ [k]).Pairwise _
   rw [List.pairwise_append]
   refine ⟨?_, by simp, fun a ha b hb => ?_⟩
   · refine List.Pairwise.imp_of_mem (fun {a b} ha hb hab => ?_) t.pw
     rw [eon a (hne a ha), eon b (hne b hb)]; exact hab
   · rw [List.mem_singleton.1 hb, eok, eon a (hne a ha)]
     have := t.om a
     omega
 · intro v
   rw [hop]
   by_cases e : v = k
   · subst e
     have := t.pn v hk h0
     rw [eok]
     refine ⟨fun _ => ⟨by omega, by show gi s.part v < 0; omega⟩, fun _ => .inr rfl⟩
   · rw [eon v e]
     show _ ↔ _ ∧ gi s.part v < 0
     rw [← t.mem v]
     simp [e]
 · rw [eF, List.pairwise_append]
   refine ⟨?_, by simp, fun a ha b hb => ?_⟩
   · refine List.Pairwise.imp_of_mem (fun {a b} ha hb hab => ?_) t.fpw
     rw [eon a (hne a (t.fin a ha)), eon b (hne b (t.fin b hb))]; exact hab
   · rw [List.mem_singleton.1 hb, eok, eon a (hne a (t.fin a ha))]
     have := t.om a
     omega
 · intro c hc
   rw [hop]
   rcases (hF c).1 hc with hc | hc
   · exact .inl (t.fin c hc)
   · exact .inr hc
 · intro p hp
   simp only [TS.enter, List.mem_append, List.mem_singleton] at hp
   rcases hp with hp | rfl
   · exact t.fj p hp
   · exact Nat.zero_le _
 · rw [eF]
   show (s.opn ++ [k]).head? = _
   rw [List.head?_append, List.head?_append, t.bot]
 · intro v w hv hw
   obtain ⟨h1, h2⟩ := hd v w hw
   rw [eon v h1] at hv
   by_cases e : w = k
   · refine .inl ?_
     rw [e, eok]
     omega
   · rw [eon w e]
     rcases t.vis v w hv h2 with h3 | h3
     · exact .inl h3
     · exact absurd (by simpa using h3.symm) e
 · intro c hc v hv h1
   rcases (hop v).1 hv with hv' | ev
   · rcases (hF c).1 hc with hc' | ec
     · rw [eon v (hne v hv'), eon c (hne c (t.fin c hc'))] at h1
       exact t.dsc c hc' v hv' h1
     · rw [ec, eok, eon v (hne v hv')] at h1
       have := t.om v
       omega
   · rw [ev]
     rcases (hF c).1 hc with hc' | ec
     · exact hr c hc'
     · rw [ec]; exact .refl _
 · intro v hv hp w hw
   have hvk : v ≠ k := fun e => by have := t.pn k hk h0; rw [e] at hp; change 0 ≤ gi s.part k at hp; omega
   rw [eon v hvk] at hv
   obtain ⟨h1, h2⟩ := t.cls v hv hp w hw
   refine ⟨?_, h2⟩
   rw [eo]; split
   · omega
   · exact h1
 · intro v hv hp
   have hvk : v ≠ k := fun e => by have := t.pn k hk h0; rw [e] at hp; change 0 ≤ gi s.part k at hp; omega
   rw [eon v hvk] at hv
   exact t.prt v hv hp
 · intro v hv
   rcases (hop v).1 hv with hv | rfl
   · obtain ⟨w, h1, h2, h3⟩ := t.lwr v hv
     exact ⟨w, (hop w).2 (.inl h1), by rw [eon w (hne w h1), eln v (hne v hv)]; exact h2, h3⟩
   · exact ⟨v, hv, by rw [eok, elk], .refl _⟩
 · intro v hv
   rcases (hop v).1 hv with hv | rfl
   · have q := t.lwf v hv
     rw [eon v (hne v hv), eln v (hne v hv)]
     exact ⟨q.1, fun hf => q.2 fun h => hf ((hF v).2 (.inl h))⟩
   · rw [eok, elk]
     exact ⟨Int.le_refl _, fun hf => absurd ((hF v).2 (.inr rfl)) hf⟩
 · intro c hc v hv h1 h2
   rcases (hop v).1 hv with hv' | ev
   · rcases (hF c).1 hc with hc' | ec
     · have hck := hne c (t.fin c hc')
       rw [eon v (hne v hv'), eon c hck] at h1
       obtain ⟨q1, q2⟩ := t.anc c hc' v hv' h1 fun q hq hle => by
        have := h2 q ((hF q).2 (.inl hq)) (by rw [eon q (hne q (t.fin q hq)), eon v (hne v hv')]; exact hle)
        rwa [eon q (hne q (t.fin q hq)), eon c hck] at this
       rw [eln c hck, eln v (hne v hv')]
       refine ⟨q1, fun w hw hwo => ?_⟩
       rcases (hop w).1 hwo with hwo' | ew
       · rw [eon w (hne w hwo')]; exact q2 w (hd v w hw).2 hwo'
       · rw [ew, eok]
         have a1 := (t.lwf c (t.fin c hc')).1
         have a2 := t.om c
         omega
     · rw [ec, eok, eon v (hne v hv')] at h1
       have := t.om v
       omega
   · have hck : c = v := by
      have a1 := h2 v ((hF v).2 (.inr ev)) (Int.le_refl _)
      rcases (hF c).1 hc with hc' | ec
      · rw [ev, eok, eon c (hne c (t.fin c hc'))] at a1
        have := t.om c
        omega
      · rw [ec, ev]
     rw [hck]
     exact ⟨Int.le_refl _, fun w hw _ => absurd ev (hd v w hw).1⟩
 · intro v hv hv0
   by_cases e : v = k
   · rw [e, eok] at hv0; omega
   · rw [eon v e] at hv0; exact t.pn v hv hv0
end
section
variable {nx : Nat → List Nat} {n : Nat} {x : Option Nat} {s : TS}

theorem leastOf_spec (a : Nat) : ∀ (C : List Nat), (leastOf a C = a ∨ leastOf a C ∈ C) ∧ leastOf a C ≤ a ∧ ∀ v ∈ C, leastOf a C ≤ v := by
 intro C
 induction C generalizing a with
 | nil => exact ⟨.inl rfl, Nat.le_refl _, fun v h => by cases h⟩
 | cons y C ih =>
   obtain ⟨h1, h2, h3⟩ := ih (min a y)
   have e : leastOf a (y :: C) = leastOf (min a y) C := rfl
   rw [e]
   refine ⟨?_, by omega, fun v hv => ?_⟩
   · rcases h1 with h1 | h1
     · rw [h1]
       by_cases hm : a ≤ y
       · left; omega
       · right; rw [Nat.min_eq_right (by omega)]; exact List.mem_cons_self
     · exact .inr (List.mem_cons_of_mem _ h1)
   · rcases List.mem_cons.1 hv with rfl | hv
     · omega
     · exact h3 v hv
theorem DY (m : Nat) : ∀ (C : List Nat) (p : List Int), (BB p C m).length = p.length
 | [], _ => rfl
 | k :: C, p => by
   have e : BB p (k :: C) m = BB (p.set k m) C m := rfl
   rw [e, DY m C]; simp
theorem KM (m : Nat) (v : Nat) : ∀ (C : List Nat) (p : List Int), (∀ k ∈ C, k < p.length) → gi (BB p C m) v = if v ∈ C then (m : Int) else gi p v
 | [], p, _ => by simp [BB]
 | k :: C, p, h => by
   have e : BB p (k :: C) m = BB (p.set k m) C m := rfl
   rw [e, KM m v C _ (fun j hj => by rw [List.length_set]; exact h j (List.mem_cons_of_mem _ hj)), Dp _ _ _ _ (h k List.mem_cons_self)]
   by_cases h1 : v ∈ C
   · rw [if_pos h1, if_pos (List.mem_cons_of_mem _ h1)]
   · rw [if_neg h1]
     by_cases h2 : v = k
     · rw [if_pos h2, if_pos (by rw [h2]; exact List.mem_cons_self)]
     · rw [if_neg h2, if_neg (by simp [h1, h2])]

theorem Fu (a : Nat) (h : s.calls.dropLast = []) : s.low1 a = s.low := by simp [TS.low1, h]
theorem J6 (a : Nat) {p : Nat × Nat} (h : s.calls.dropLast.getLast? = some p) : s.low1 a = s.low.set p.1 (min (gi s.low p.1) (gi s.low a)) := by simp [TS.low1, h]

structure AtEnd (nx : Nat → List Nat) (n : Nat) (s : TS) (a : Nat) : Prop where
 inv : BV nx n none s
 last : ∃ p, s.calls.getLast? = some p ∧ p.1 = a ∧ p.2 = (nx a).length
namespace AtEnd
variable {a : Nat}
theorem aF (t : AtEnd nx n s a) : a ∈ s.F := by
 obtain ⟨p, h, e, _⟩ := t.last
 rw [← e]; exact List.mem_map.2 ⟨p, Fz h, rfl⟩
theorem ao (t : AtEnd nx n s a) : a ∈ s.opn := t.inv.fin a t.aF
theorem an (t : AtEnd nx n s a) : a < n := t.inv.lt ((t.inv.mem a).1 t.ao).1
theorem eF (t : AtEnd nx n s a) : s.F = s.calls.dropLast.map Prod.fst ++ [a] := by
 obtain ⟨p, h, e, _⟩ := t.last
 rw [O9 h, e]
theorem last_le (t : AtEnd nx n s a) : ∀ c ∈ s.F, gi s.order c ≤ gi s.order a := by
 obtain ⟨p, h, e, _⟩ := t.last
 rw [← e]; exact t.inv.last_le h
theorem f0 (t : AtEnd nx n s a) {c : Nat} (hc : c ∈ s.calls.dropLast.map Prod.fst) : c ∈ s.F ∧ gi s.order c < gi s.order a := by
 have hp := t.inv.fpw
 rw [t.eF, List.pairwise_append] at hp
 exact ⟨by rw [t.eF]; exact List.mem_append.2 (.inl hc), hp.2.2 c hc a (by simp)⟩
theorem f0_iff (t : AtEnd nx n s a) {c : Nat} : c ∈ s.calls.dropLast.map Prod.fst ↔ c ∈ s.F ∧ c ≠ a := by
 refine ⟨fun h => ⟨(t.f0 h).1, fun e => ?_⟩, fun ⟨h, e⟩ => ?_⟩
 · have := (t.f0 h).2; rw [e] at this; omega
 · rw [t.eF] at h
   rcases List.mem_append.1 h with h | h
   · exact h
   · exact absurd (List.mem_singleton.1 h) e
theorem done_a (t : AtEnd nx n s a) {w : Nat} (hw : w ∈ nx a) : s.done nx a w := by
 obtain ⟨p, h, e, e2⟩ := t.last
 refine ⟨hw, fun j hj => ?_⟩
 have : j = p.2 := t.inv.frame_uniq hj (by rw [← e]; exact Fz h)
 rw [this, e2, List.take_length]; exact hw
theorem pop_done (t : AtEnd nx n s a) {v w : Nat} (hd : (s.pop a).done nx v w) : s.done nx v w := by
 by_cases e : v = a
 · rw [e]; rw [e] at hd; exact t.done_a hd.1
 · refine ⟨hd.1, fun j hj => hd.2 j ?_⟩
   obtain ⟨p, h, e1, _⟩ := t.last
   rw [Ec h] at hj
   rcases List.mem_append.1 hj with hj | hj
   · exact hj
   · rw [List.mem_singleton] at hj; rw [← hj] at e1; exact absurd e1 e
theorem up (t : AtEnd nx n s a) {p : Nat × Nat} (h : s.calls.dropLast.getLast? = some p) : p.1 ∈ s.calls.dropLast.map Prod.fst ∧ ∀ c ∈ s.calls.dropLast.map Prod.fst, gi s.order c ≤ gi s.order p.1 := by
 obtain ⟨ys, hy⟩ := List.getLast?_eq_some_iff.1 h
 refine ⟨by rw [hy]; simp, fun c hc => ?_⟩
 have hp := t.inv.fpw
 rw [t.eF, List.pairwise_append, hy, List.map_append, List.pairwise_append] at hp
 rw [hy, List.map_append] at hc
 rcases List.mem_append.1 hc with hc | hc
 · have := hp.1.2.2 c hc p.1 (by simp); omega
 · simp at hc; rw [hc]; exact Int.le_refl _
theorem low1_get (t : AtEnd nx n s a) {p : Nat × Nat} (h : s.calls.dropLast.getLast? = some p) (v : Nat) : gi (s.low1 a) v = if v = p.1 then min (gi s.low p.1) (gi s.low a) else gi s.low v := by
 rw [J6 a h]
 refine Dp _ _ _ _ ?_
 rw [t.inv.ll]
 exact t.inv.lt ((t.inv.mem _).1 (t.inv.fin _ (t.f0 (t.up h).1).1)).1
theorem low1_le (t : AtEnd nx n s a) (v : Nat) : gi (s.low1 a) v ≤ gi s.low v := by
 cases h : s.calls.dropLast.getLast? with
 | none => rw [Fu a (List.getLast?_eq_none_iff.1 h)]; exact Int.le_refl _
 | some p =>
   rw [t.low1_get h]; split
   · rename_i e; rw [e]; omega
   · exact Int.le_refl _
theorem low1_a (t : AtEnd nx n s a) : gi (s.low1 a) a = gi s.low a := by
 cases h : s.calls.dropLast.getLast? with
 | none => rw [Fu a (List.getLast?_eq_none_iff.1 h)]
 | some p =>
   rw [t.low1_get h, if_neg]
   intro e
   have := (t.f0 (t.up h).1).2
   rw [e] at this; omega
theorem low1_len (t : AtEnd nx n s a) : (s.low1 a).length = n := by
 cases h : s.calls.dropLast.getLast? with
 | none => rw [Fu a (List.getLast?_eq_none_iff.1 h)]; exact t.inv.ll
 | some p => rw [J6 a h]; simp [t.inv.ll]

theorem pop (t : AtEnd nx n s a) (hne : gi s.low a ≠ gi s.order a) : BV nx n none (s.pop a) := by
 have i := t.inv
 have hF0 : s.calls.dropLast ≠ [] := by
  intro h0
  have e1 := t.eF
  rw [h0] at e1
  obtain ⟨w, hw, h1, _⟩ := i.lwr a t.ao
  have hb := i.bot
  rw [e1] at hb
  have := (i.lwf a t.ao).1
  have hle : gi s.order a ≤ gi s.order w := by
   cases ho : s.opn with
   | nil => rw [ho] at hw; cases hw
   | cons y l =>
     rw [ho] at hb
     simp at hb
     have hp := i.pw
     rw [ho, List.pairwise_cons] at hp
     rw [ho] at hw
     rcases List.mem_cons.1 hw with rfl | hw
     · rw [hb]; exact Int.le_refl _
     · have := hp.1 w hw; rw [hb] at this; omega
  omega
 obtain ⟨p, hp⟩ : ∃ p, s.calls.dropLast.getLast? = some p := by
  cases h : s.calls.dropLast.getLast? with
  | none => exact absurd (List.getLast?_eq_none_iff.1 h) hF0
  | some p => exact ⟨p, rfl⟩
 have hup := t.up hp
 have hupF := t.f0 hup.1
 have hpop : ∀ c, c ∈ (s.pop a).F ↔ c ∈ s.F ∧ c ≠ a := fun c => t.f0_iff
 have hdsc : Rch nx p.1 a := i.dsc p.1 hupF.1 a t.ao (by omega)
 refine { lo := i.lo, ll := t.low1_len, lp := i.lp, om := i.om, pw := i.pw, mem := i.mem, fpw := ?_, fin := fun c hc => i.fin c ((hpop c).1 hc).1, fj := fun q hq => i.fj q (List.dropLast_subset _ hq), bot := ?_, vis := fun v w hv hd => i.vis v w hv (t.pop_done hd), dsc := fun c hc => i.dsc c ((hpop c).1 hc).1, cls := i.cls, prt := i.prt, lwr := ?_, lwf := ?_, anc := ?_, pn := i.pn }
 · have := i.fpw
   rw [t.eF, List.pairwise_append] at this
   exact this.1
 · show s.opn.head? = (s.calls.dropLast.map Prod.fst).head?
   rw [i.bot, t.eF, List.head?_append]
   cases h : s.calls.dropLast with
   | nil => exact absurd h hF0
   | cons y l => rfl
 · intro v hv
   show ∃ w ∈ s.opn, gi s.order w = gi (s.low1 a) v ∧ _
   rw [t.low1_get hp]
   by_cases e : v = p.1
   · rw [if_pos e]
     by_cases hm : gi s.low p.1 ≤ gi s.low a
     · rw [Int.min_eq_left hm, e]; exact i.lwr _ (i.fin _ hupF.1)
     · obtain ⟨w, h1, h2, h3⟩ := i.lwr a t.ao
       rw [Int.min_eq_right (by omega), e]
       exact ⟨w, h1, h2, hdsc.trans h3⟩
   · rw [if_neg e]; exact i.lwr v hv
 · intro v hv
   have q := i.lwf v hv
   have q' := t.low1_le v
   refine ⟨Int.le_trans q' q.1, fun hf => ?_⟩
   by_cases e : v = a
   · rw [e]
     have := (i.lwf a t.ao).1
     have h1 := t.low1_a
     show gi (s.low1 a) a < gi s.order a
     omega
   · exact Int.lt_of_le_of_lt q' (q.2 fun h => hf ((hpop v).2 ⟨h, e⟩))
 · intro c hc v hv h1 h2
   obtain ⟨hcF, hca⟩ := (hpop c).1 hc
   show gi (s.low1 a) c ≤ gi (s.low1 a) v ∧ ∀ w, _ → w ∈ s.opn → gi (s.low1 a) c ≤ gi s.order w
   by_cases hav : gi s.order a ≤ gi s.order v
   · have hcp : c = p.1 := by
      have q := h2 p.1 hup.1 (by show gi s.order p.1 ≤ gi s.order v; omega)
      exact i.inj (i.fin c hcF) (i.fin _ hupF.1) (Int.le_antisymm (hup.2 c (t.f0_iff.2 ⟨hcF, hca⟩)) q)
     obtain ⟨q1, q2⟩ := i.anc a t.aF v hv hav fun q hq _ => t.last_le q hq
     have hvp : v ≠ p.1 := fun e => by rw [e] at hav; omega
     have el : gi (s.low1 a) c ≤ gi s.low a := by rw [t.low1_get hp, if_pos hcp]; omega
     refine ⟨?_, fun w hd hw => ?_⟩
     · rw [t.low1_get hp v, if_neg hvp]; omega
     · have := q2 w (t.pop_done hd) hw; omega
   · obtain ⟨q1, q2⟩ := i.anc c hcF v hv h1 fun q hq hle => by
      by_cases e : q = a
      · rw [e] at hle; omega
      · exact h2 q ((hpop q).2 ⟨hq, e⟩) hle
     have el := t.low1_le c
     refine ⟨?_, fun w hd hw => ?_⟩
     · by_cases e : v = p.1
       · have hcv : c = p.1 := by
          have q := h2 p.1 hup.1 (by rw [← e]; exact Int.le_refl _)
          exact i.inj (i.fin c hcF) (i.fin _ hupF.1) (Int.le_antisymm (hup.2 c (t.f0_iff.2 ⟨hcF, hca⟩)) q)
         rw [hcv, e]; exact Int.le_refl _
       · rw [t.low1_get hp v, if_neg e]; omega
     · have := q2 w (t.pop_done hd) hw; omega

theorem split_at (t : AtEnd nx n s a) : ∃ A B, s.opn = A ++ a :: B ∧ a ∉ A ∧ s.opn.take (s.opn.idxOf a) = A ∧ s.opn.drop (s.opn.idxOf a) = a :: B := by
 obtain ⟨A, B, e, hA⟩ : ∃ A B, s.opn = A ++ a :: B ∧ a ∉ A := List.mem_iff_append.1 t.ao |> fun ⟨A, B, e⟩ => by
  refine ⟨A, B, e, fun hA => ?_⟩
  have hp := t.inv.pw
  rw [e, List.pairwise_append] at hp
  have := hp.2.2 a hA a (by simp)
  omega
 have hi : s.opn.idxOf a = A.length := by
  rw [e, List.idxOf_append, if_neg hA]; simp
 exact ⟨A, B, e, hA, by rw [hi, e, List.take_left], by rw [hi, e, List.drop_left]⟩

theorem leave (t : AtEnd nx n s a) (heq : gi s.low a = gi s.order a) : BV nx n none { s.pop a with part := BB s.part (s.opn.drop (s.opn.idxOf a)) (Go.Sp.leastOf a (s.opn.drop (s.opn.idxOf a))), opn := s.opn.take (s.opn.idxOf a) } := by
 have i := t.inv
 obtain ⟨A, B, e, hA, e1, e2⟩ := t.split_at
 rw [e1, e2]
 have hpw := i.pw
 rw [e, List.pairwise_append, List.pairwise_cons] at hpw
 have hAlt : ∀ v ∈ A, gi s.order v < gi s.order a := fun v hv => hpw.2.2 v hv a (by simp)
 have hClt : ∀ v ∈ a :: B, gi s.order a ≤ gi s.order v := fun v hv => by
  rcases List.mem_cons.1 hv with rfl | hv
  · exact Int.le_refl _
  · have := hpw.2.1.1 v hv; omega
 have hop : ∀ v, v ∈ s.opn ↔ v ∈ A ∨ v ∈ a :: B := fun v => by rw [e, List.mem_append]
 have hAC : ∀ v ∈ A, v ∉ a :: B := fun v h1 h2 => by have q1 := hAlt v h1; have q2 := hClt v h2; omega
 have hCn : ∀ k ∈ a :: B, k < s.part.length := fun k hk => by rw [i.lp]; exact i.lt ((i.mem k).1 ((hop k).2 (.inr hk))).1
 have hpop : ∀ c, c ∈ s.calls.dropLast.map Prod.fst ↔ c ∈ s.F ∧ c ≠ a := fun c => t.f0_iff
 -- low stands
 have Ms : ∀ v, gi (s.low1 a) v = gi s.low v := fun v => by
  cases h : s.calls.dropLast.getLast? with
  | none => rw [Fu a (List.getLast?_eq_none_iff.1 h)]
  | some p =>
    rw [t.low1_get h]; split
    · rename_i ev
      have q1 := (t.f0 (t.up h).1)
      have q2 := (i.lwf p.1 (i.fin _ q1.1)).1
      rw [ev, Int.min_eq_left (by omega)]
    · rfl
 -- those that are open from a on
 have hanc : ∀ v ∈ a :: B, gi s.order a ≤ gi s.low v ∧ ∀ w, s.done nx v w → w ∈ s.opn → gi s.order a ≤ gi s.order w := fun v hv => by
  rw [← heq]
  exact i.anc a t.aF v ((hop v).2 (.inr hv)) (hClt v hv) fun q hq _ => t.last_le q hq
 have hCF : ∀ v ∈ a :: B, v ≠ a → v ∉ s.F := fun v hv hne hf => by
  have h1 := t.last_le v hf
  have h2 := hClt v hv
  exact hne (i.inj ((hop v).2 (.inr hv)) t.ao (Int.le_antisymm h1 h2))
 have hdone : ∀ v ∈ a :: B, ∀ w ∈ nx v, s.done nx v w := fun v hv w hw => by
  by_cases hva : v = a
  · rw [hva] at hw ⊢; exact t.done_a hw
  · exact ⟨hw, fun j hj => absurd (List.mem_map.2 ⟨_, hj, rfl⟩) (hCF v hv hva)⟩
 have hin : ∀ w, w ∈ s.opn → gi s.order a ≤ gi s.order w → w ∈ a :: B := fun w hw hle => by
  rcases (hop w).1 hw with h | h
  · have := hAlt w h; omega
  · exact h
 have hout : ∀ v ∈ a :: B, ∀ w ∈ nx v, w ∈ a :: B ∨ (gi s.order w ≠ 0 ∧ 0 ≤ gi s.part w) := fun v hv w hw => by
  have hd := hdone v hv w hw
  have hvis : gi s.order w ≠ 0 := by
   rcases i.vis v w ((i.mem v).1 ((hop v).2 (.inr hv))).1 hd with h | h
   · exact h
   · cases h
  by_cases hwo : w ∈ s.opn
  · exact .inl (hin w hwo ((hanc v hv).2 w hd hwo))
  · refine .inr ⟨hvis, ?_⟩
    have := mt (i.mem w).2 hwo
    by_cases hp : gi s.part w < 0
    · exact absurd ⟨hvis, hp⟩ this
    · omega
 have hback : ∀ (m : Nat) (v : Nat), v ∈ a :: B → (gi s.order v).toNat < m → Rch nx v a := by
  intro m
  induction m with
  | zero => intro v _ h; omega
  | succ m ih =>
    intro v hv hm
    by_cases hva : v = a
    · rw [hva]; exact .refl _
    obtain ⟨w, h1, h2, h3⟩ := i.lwr v ((hop v).2 (.inr hv))
    have h4 := (i.lwf v ((hop v).2 (.inr hv))).2 (hCF v hv hva)
    have h5 := (hanc v hv).1
    have h6 := i.om w
    have hw := hin w h1 (by omega)
    exact h3.trans (ih w hw (by omega))
 have hto : ∀ v ∈ a :: B, Rch nx v a := fun v hv => hback _ v hv (Nat.lt_succ_self _)
 have hfro : ∀ v ∈ a :: B, Rch nx a v := fun v hv => i.dsc a t.aF v ((hop v).2 (.inr hv)) (hClt v hv)
 have hclosed : ∀ u, u ∈ a :: B ∨ (gi s.order u ≠ 0 ∧ 0 ≤ gi s.part u) → ∀ w ∈ nx u, w ∈ a :: B ∨ (gi s.order w ≠ 0 ∧ 0 ≤ gi s.part w) := fun u hu w hw => by
  rcases hu with hu | ⟨h1, h2⟩
  · exact hout u hu w hw
  · exact .inr (i.cls u h1 h2 w hw)
 have hcls2 : ∀ u, (gi s.order u ≠ 0 ∧ 0 ≤ gi s.part u) → ∀ w ∈ nx u, (gi s.order w ≠ 0 ∧ 0 ≤ gi s.part w) := fun u hu w hw => i.cls u hu.1 hu.2 w hw
 obtain ⟨g1, g2, g3⟩ := leastOf_spec a (a :: B)
 have hmC : Go.Sp.leastOf a (a :: B) ∈ a :: B := by
  rcases g1 with g1 | g1
  · rw [g1]; exact List.mem_cons_self
  · exact g1
 have hlst : ∀ v ∈ a :: B, EL nx v ((Go.Sp.leastOf a (a :: B) : Nat) : Int) := fun v hv => by
  refine ⟨_, rfl, (hto v hv).trans (hfro _ hmC), (hto _ hmC).trans (hfro v hv), fun u h1 h2 => ?_⟩
  rcases Rch.closed hclosed h1 (.inl hv) with h3 | h3
  · exact g3 u h3
  · have h4 := Rch.closed hcls2 h2 h3
    have h5 := ((i.mem v).1 ((hop v).2 (.inr hv))).2
    omega
 have ep : ∀ v, gi (BB s.part (a :: B) (Go.Sp.leastOf a (a :: B))) v = if v ∈ a :: B then ((Go.Sp.leastOf a (a :: B) : Nat) : Int) else gi s.part v := fun v => KM _ v _ _ hCn
 refine { lo := i.lo, ll := t.low1_len, lp := by rw [← i.lp]; exact DY _ _ _, om := i.om, pw := hpw.1, mem := ?_, fpw := ?_, fin := ?_, fj := fun q hq => i.fj q (List.dropLast_subset _ hq), bot := ?_, vis := fun v w hv hd => i.vis v w hv (t.pop_done hd), dsc := ?_, cls := ?_, prt := ?_, lwr := ?_, lwf := ?_, anc := ?_, pn := ?_ }
 · intro v
   show v ∈ A ↔ gi s.order v ≠ 0 ∧ gi (BB _ _ _) v < 0
   rw [ep]
   by_cases hv : v ∈ a :: B
   · rw [if_pos hv]
     refine ⟨fun h => absurd hv (hAC v h), fun h => ?_⟩
     omega
   · rw [if_neg hv, ← i.mem v, hop v]
     simp [hv]
 · have := i.fpw
   rw [t.eF, List.pairwise_append] at this
   exact this.1
 · intro c hc
   have hc' := t.f0 hc
   rcases (hop c).1 (i.fin c hc'.1) with h | h
   · exact h
   · have := hClt c h; omega
 · show A.head? = (s.calls.dropLast.map Prod.fst).head?
   have hb := i.bot
   rw [t.eF, e, List.head?_append, List.head?_append] at hb
   cases hA' : A with
   | nil =>
     cases h0 : s.calls.dropLast.map Prod.fst with
     | nil => rfl
     | cons c l =>
       rw [hA', h0] at hb
       simp at hb
       have := (t.f0 (c := c) (by rw [h0]; exact List.mem_cons_self)).2
       rw [hb] at this; omega
   | cons y l =>
     cases h0 : s.calls.dropLast.map Prod.fst with
     | nil =>
       rw [hA', h0] at hb
       simp at hb
       exact absurd (by rw [hA', hb]; exact List.mem_cons_self) hA
     | cons c l' =>
       rw [hA', h0] at hb
       simpa using hb
 · intro c hc v hv h1
   exact i.dsc c (t.f0 hc).1 v ((hop v).2 (.inl hv)) h1
 · intro v hv hp w hw
   show gi s.order w ≠ 0 ∧ 0 ≤ gi (BB _ _ _) w
   have hp' : 0 ≤ gi (BB s.part (a :: B) (Go.Sp.leastOf a (a :: B))) v := hp
   have hcl : w ∈ a :: B ∨ (gi s.order w ≠ 0 ∧ 0 ≤ gi s.part w) := by
    by_cases hvC : v ∈ a :: B
    · exact hout v hvC w hw
    · rw [ep, if_neg hvC] at hp'
      exact .inr (i.cls v hv hp' w hw)
   rcases hcl with h | h
   · rw [ep, if_pos h]
     exact ⟨((i.mem w).1 ((hop w).2 (.inr h))).1, by omega⟩
   · refine ⟨h.1, ?_⟩
     rw [ep]; split
     · omega
     · exact h.2
 · intro v hv hp
   show EL nx v (gi (BB _ _ _) v)
   have hp' : 0 ≤ gi (BB s.part (a :: B) (Go.Sp.leastOf a (a :: B))) v := hp
   rw [ep] at hp' ⊢
   by_cases hvC : v ∈ a :: B
   · rw [if_pos hvC]; exact hlst v hvC
   · rw [if_neg hvC] at hp' ⊢
     exact i.prt v hv hp'
 · intro v hv
   obtain ⟨w, h1, h2, h3⟩ := i.lwr v ((hop v).2 (.inl hv))
   refine ⟨w, ?_, by show gi s.order w = gi (s.low1 a) v; rw [Ms]; exact h2, h3⟩
   rcases (hop w).1 h1 with h | h
   · exact h
   · have q1 := hClt w h
     have q2 := (i.lwf v ((hop v).2 (.inl hv))).1
     have q3 := hAlt v hv
     omega
 · intro v hv
   show gi (s.low1 a) v ≤ gi s.order v ∧ (v ∉ s.calls.dropLast.map Prod.fst → gi (s.low1 a) v < gi s.order v)
   rw [Ms]
   have q := i.lwf v ((hop v).2 (.inl hv))
   exact ⟨q.1, fun hf => q.2 fun h => hf ((hpop v).2 ⟨h, fun e => hA (e ▸ hv)⟩)⟩
 · intro c hc v hv h1 h2
   show gi (s.low1 a) c ≤ gi (s.low1 a) v ∧ ∀ w, _ → w ∈ A → gi (s.low1 a) c ≤ gi s.order w
   rw [Ms, Ms]
   obtain ⟨q1, q2⟩ := i.anc c (t.f0 hc).1 v ((hop v).2 (.inl hv)) h1 fun q hq hle => by
    by_cases eq : q = a
    · have q3 := hAlt v hv; rw [eq] at hle; omega
    · exact h2 q ((hpop q).2 ⟨hq, eq⟩) hle
   exact ⟨q1, fun w hd hw => q2 w (t.pop_done hd) ((hop w).2 (.inl hw))⟩
 · intro v hv h0
   show gi (BB _ _ _) v = -1
   rw [ep, if_neg]
   · exact i.pn v hv h0
   · intro hC
     exact ((i.mem v).1 ((hop v).2 (.inr hC))).1 h0
end AtEnd

theorem BV.go (hn : ∀ i, ∀ k ∈ nx i, k < n) (t : BV nx n none s) : BV nx n none (s.go nx) := by
 unfold TS.go
 cases h : s.calls.getLast? with
 | none => exact t
 | some p =>
   dsimp only
   by_cases hj : p.2 < (nx p.1).length
   · rw [dif_pos hj]
     have hpF : p.1 ∈ s.F := List.mem_map.2 ⟨p, Fz h, rfl⟩
     by_cases h0 : gi s.order (nx p.1)[p.2] = 0
     · rw [if_pos h0]
       refine BV.enter (t.next h hj _ (.inr rfl) fun ho => ((t.mem _).1 ho).1 h0) (hn p.1 _ (List.getElem_mem _)) h0 fun c hc => ?_
       rw [S8 h] at hc
       exact .step (t.dsc c hc p.1 (t.fin _ hpF) (t.last_le h c hc)) (List.getElem_mem _)
     · rw [if_neg h0]
       by_cases h1 : gi s.part (nx p.1)[p.2] < 0
       · rw [if_pos h1]; exact t.lower h hj ((t.mem _).2 ⟨h0, h1⟩)
       · rw [if_neg h1]; exact t.next h hj none (.inl h0) fun ho => h1 ((t.mem _).1 ho).2
   · rw [dif_neg hj]
     have ha : AtEnd nx n s p.1 := ⟨t, p, h, rfl, by have := t.fj p (Fz h); omega⟩
     unfold TS.leave
     rw [ha.low1_a]
     by_cases he : gi s.low p.1 = gi s.order p.1
     · rw [if_neg (by simpa using he)]; exact ha.leave he
     · rw [if_pos he]; exact ha.pop he
def TS.init (n : Nat) : TS := ⟨List.replicate n 0, List.replicate n 0, List.replicate n (-1), [], [], 0⟩
theorem Is (n i : Nat) : gi (List.replicate n 0) i = 0 := by
 unfold gi; rw [List.getElem?_replicate]; split <;> rfl
theorem BV.init (nx : Nat → List Nat) (n : Nat) : BV nx n none (TS.init n) where
 lo := by simp [TS.init]
 ll := by simp [TS.init]
 lp := by simp [TS.init]
 om v := by simp [TS.init, Is]
 pw := by simp [TS.init]
 mem v := by simp [TS.init, Is]
 fpw := by simp [TS.init, TS.F]
 fin := by simp [TS.init, TS.F]
 fj := by simp [TS.init]
 bot := rfl
 vis v w h := absurd (Is n v) h
 dsc := by simp [TS.init, TS.F]
 cls v h := absurd (Is n v) h
 prt v h := absurd (Is n v) h
 lwr := by simp [TS.init]
 lwf := by simp [TS.init]
 anc := by simp [TS.init, TS.F]
 pn v hv _ := by simp [TS.init, gi, List.getElem?_replicate, hv]
theorem BV.root {k : Nat} (t : BV nx n none s) (hc : s.calls = []) (hk : k < n) (h0 : gi s.order k = 0) : BV nx n none (s.enter k) := by
 refine BV.enter { t with vis := fun v w hv hd => .inl ?_ } hk h0 fun c hc' => ?_
 · rcases t.vis v w hv hd with h | h
   · exact h
   · cases h
 · simp [TS.F, hc] at hc'
theorem BV.calm (t : BV nx n none s) (hc : s.calls = []) {v : Nat} (hv : gi s.order v ≠ 0) : EL nx v (gi s.part v) := by
 have ho : s.opn = [] := by
  have := t.bot
  rw [TS.F, hc] at this
  cases h : s.opn with
  | nil => rfl
  | cons _ _ => rw [h] at this; simp at this
 have hp : ¬ gi s.part v < 0 := fun h => by
  have := (t.mem v).2 ⟨hv, h⟩
  rw [ho] at this; cases this
 exact t.prt v hv (by omega)
theorem QB (t : BV nx n none s) {v : Nat} (hv : gi s.order v ≠ 0) : gi (s.go nx).order v ≠ 0 := by
 unfold TS.go
 cases h : s.calls.getLast? with
 | none => exact hv
 | some p =>
   dsimp only
   split
   · split
     · rename_i hj h0
       show gi (s.order.set _ _) v ≠ 0
       by_cases hk : (nx p.1)[p.2] < s.order.length
       · rw [Dp _ _ _ _ hk]
         split
         · show ((s.met : Int) + 1) ≠ 0; omega
         · exact hv
       · rw [List.set_eq_of_length_le (by omega)]; exact hv
     · split <;> exact hv
   · unfold TS.leave
     split <;> exact hv
theorem P0 {v : Nat} {m m' : Int} (h : EL nx v m) (h' : EL nx v m') : m = m' := by
 obtain ⟨k, rfl, a1, a2, a3⟩ := h
 obtain ⟨k', rfl, b1, b2, b3⟩ := h'
 have h1 := a3 k' b1 b2
 have h2 := b3 k a1 a2
 omega
end
open Go.Av
section
variable {nx : Nat → List Nat} {n : Nat} {x : Option Nat} {s : TS}
def JM (n : Nat) (f : Nat → Nat) : Nat := ((List.range n).map f).sum
theorem Ff (n : Nat) (f : Nat → Nat) : JM (n + 1) f = JM n f + f n := by simp [JM, List.range_succ]
theorem NW {f g : Nat → Nat} : ∀ n, (∀ v, v < n → f v = g v) → JM n f = JM n g
 | 0, _ => rfl
 | n + 1, h => by rw [Ff, Ff, NW n (fun v hv => h v (by omega)), h n (by omega)]
theorem Lt {f g : Nat → Nat} {k : Nat} : ∀ n, k < n → (∀ v, v ≠ k → f v = g v) → JM n f + g k = JM n g + f k
 | 0, h, _ => by omega
 | n + 1, h, he => by
   rw [Ff, Ff]
   by_cases hk : k = n
   · rw [NW (g := g) n fun v hv => he v (by omega), hk]; omega
   · have := Lt n (by omega) he
     rw [he n (by omega)]
     omega
def wt (nx : Nat → List Nat) (p : Nat × Nat) : Nat := (nx p.1).length - p.2 + 1
def TS.mu (nx : Nat → List Nat) (n : Nat) (s : TS) : Nat := JM n (fun v => if gi s.order v = 0 then (nx v).length + 2 else 0) + (s.calls.map (wt nx)).sum
theorem dD (hn : ∀ i, ∀ k ∈ nx i, k < n) (t : BV nx n none s) {p : Nat × Nat} (h : s.calls.getLast? = some p) : (s.go nx).mu nx n < s.mu nx n := by
 have e : (s.calls.map (wt nx)).sum = (s.calls.dropLast.map (wt nx)).sum + wt nx p := by
  conv => lhs; rw [Ec h]
  simp
 unfold TS.go
 rw [h]
 dsimp only
 by_cases hj : p.2 < (nx p.1).length
 · rw [dif_pos hj]
   have hw : wt nx (p.1, p.2 + 1) + 1 = wt nx p := by unfold wt; dsimp only; omega
   have hk := hn p.1 _ (List.getElem_mem hj)
   by_cases h0 : gi s.order (nx p.1)[p.2] = 0
   · rw [if_pos h0]
     have e2 : (((s.next p.1 p.2).enter (nx p.1)[p.2]).calls.map (wt nx)).sum = (s.calls.dropLast.map (wt nx)).sum + wt nx (p.1, p.2 + 1) + wt nx ((nx p.1)[p.2], 0) := by
      simp [TS.enter, TS.next, Nat.add_assoc]
     have hs := Lt (f := fun v => if gi ((s.next p.1 p.2).enter (nx p.1)[p.2]).order v = 0 then (nx v).length + 2 else 0) (g := fun v => if gi s.order v = 0 then (nx v).length + 2 else 0) (k := (nx p.1)[p.2]) n hk fun v hv => by
      have : gi ((s.next p.1 p.2).enter (nx p.1)[p.2]).order v = gi s.order v := by
       show gi (s.order.set _ _) v = _
       rw [Dp _ _ _ _ (by rw [t.lo]; exact hk), if_neg hv]
      rw [this]
     have e3 : gi ((s.next p.1 p.2).enter (nx p.1)[p.2]).order (nx p.1)[p.2] = (s.met : Int) + 1 := by
      show gi (s.order.set _ _) _ = _
      rw [Dp _ _ _ _ (by rw [t.lo]; exact hk), if_pos rfl]; rfl
     rw [e3, if_pos h0, if_neg (by omega)] at hs
     unfold TS.mu
     rw [e2, e]
     have : wt nx ((nx p.1)[p.2], 0) = (nx (nx p.1)[p.2]).length + 1 := rfl
     omega
   · rw [if_neg h0]
     have e2 : ((s.next p.1 p.2).calls.map (wt nx)).sum = (s.calls.dropLast.map (wt nx)).sum + wt nx (p.1, p.2 + 1) := by simp [TS.next]
     have e3 : (((s.next p.1 p.2).lower p.1 (nx p.1)[p.2]).calls.map (wt nx)).sum = (s.calls.dropLast.map (wt nx)).sum + wt nx (p.1, p.2 + 1) := e2
     split
     · unfold TS.mu
       rw [e3, e]
       show JM n (fun v => if gi s.order v = 0 then _ else 0) + _ < _
       omega
     · unfold TS.mu
       rw [e2, e]
       show JM n (fun v => if gi s.order v = 0 then _ else 0) + _ < _
       omega
 · rw [dif_neg hj]
   unfold TS.leave
   have : 0 < wt nx p := by unfold wt; omega
   split
   · unfold TS.mu
     rw [e]
     show JM n (fun v => if gi s.order v = 0 then _ else 0) + (s.calls.dropLast.map (wt nx)).sum < _
     omega
   · unfold TS.mu
     rw [e]
     show JM n (fun v => if gi s.order v = 0 then _ else 0) + (s.calls.dropLast.map (wt nx)).sum < _
     omega
end

section
variable {nx : Nat → List Nat} {n : Nat} {s : TS}
theorem len_le : ∀ (n : Nat) (l : List Nat), l.Nodup → (∀ v ∈ l, v < n) → l.length ≤ n
 | 0, l, _, h => by
   cases l with
   | nil => exact Nat.le_refl _
   | cons v l => have := h v List.mem_cons_self; omega
 | n + 1, l, hd, h => by
   by_cases hn : n ∈ l
   · have h1 := List.length_erase_of_mem hn
     have h2 := len_le n (l.erase n) (hd.erase n) fun v hv => by
      have h3 := (hd.mem_erase_iff).1 hv
      have := h v h3.2
      have : v ≠ n := h3.1
      omega
     omega
   · have := len_le n l hd fun v hv => by
      have := h v hv
      have : v ≠ n := fun e => hn (e ▸ hv)
      omega
     omega
theorem Mw {l : List Nat} {f : Nat → Int} (h : l.Pairwise (fun a b => f a < f b)) : l.Nodup :=
 List.Pairwise.imp (fun {a b} hab e => by rw [e] at hab; omega) h
def TS.un (n : Nat) (s : TS) : Nat := JM n fun v => if gi s.order v = 0 then 1 else 0
theorem Qj {k : Nat} (hl : s.order.length = n) (hk : k < n) (h0 : gi s.order k = 0) : (s.enter k).met + (s.enter k).un n = s.met + s.un n := by
 have hs := Lt (f := fun v => if gi (s.enter k).order v = 0 then 1 else 0) (g := fun v => if gi s.order v = 0 then 1 else 0) (k := k) n hk fun v hv => by
  have : gi (s.enter k).order v = gi s.order v := by
   show gi (s.order.set _ _) v = _
   rw [Dp _ _ _ _ (by rw [hl]; exact hk), if_neg hv]
  rw [this]
 have e3 : gi (s.enter k).order k = (s.met : Int) + 1 := by
  show gi (s.order.set _ _) _ = _
  rw [Dp _ _ _ _ (by rw [hl]; exact hk), if_pos rfl]
 rw [e3, if_pos h0, if_neg (by omega)] at hs
 unfold TS.un
 show s.met + 1 + _ = _
 omega
theorem cv (hn : ∀ i, ∀ k ∈ nx i, k < n) (hl : s.order.length = n) : (s.go nx).met + (s.go nx).un n = s.met + s.un n := by
 unfold TS.go
 cases h : s.calls.getLast? with
 | none => rfl
 | some p =>
   dsimp only
   split
   · rename_i hj
     split
     · rename_i h0
       exact Qj (s := s.next p.1 p.2) hl (hn p.1 _ (List.getElem_mem hj)) h0
     · split <;> rfl
   · unfold TS.leave
     split <;> rfl
theorem BV.opn_len {x : Option Nat} (t : BV nx n x s) : s.opn.length ≤ n := len_le n _ (Mw t.pw) fun v hv => t.lt ((t.mem v).1 hv).1
theorem BV.calls_len {x : Option Nat} (t : BV nx n x s) : s.calls.length ≤ n := by
 have := len_le n s.F (Mw t.fpw) fun v hv => t.lt ((t.mem v).1 (t.fin v hv)).1
 simpa using this
theorem BV.idx {x : Option Nat} (t : BV nx n x s) {a : Nat} (i : Nat) (hi : i < s.opn.length) (h : s.opn[i] = a) : i = s.opn.idxOf a := by
 subst h
 exact ((Mw t.pw).idxOf_getElem i hi).symm
theorem aN (n : Nat) : (TS.init n).met + (TS.init n).un n ≤ n := by
 have : ∀ m, JM m (fun v => if gi (TS.init n).order v = 0 then 1 else 0) = m := fun m => by
  induction m with
  | zero => rfl
  | succ m ih =>
    rw [Ff, ih, if_pos (by simp [TS.init, Is])]
 unfold TS.un
 rw [this]
 simp [TS.init]
end
theorem QR {p : Nat → Prop} (m : Nat) (h : p m) : ∃ k, p k ∧ ∀ u, p u → k ≤ u := by
 induction m using Nat.strongRecOn with
 | _ m ih =>
   by_cases h' : ∃ j, j < m ∧ p j
   · obtain ⟨j, hj, hp⟩ := h'; exact ih j hj hp
   · exact ⟨m, h, fun u hu => by
      rcases Nat.lt_or_ge u m with h1 | h1
      · exact absurd ⟨u, h1, hu⟩ h'
      · exact h1⟩
theorem LZ (nx : Nat → List Nat) (v : Nat) : ∃ m, EL nx v m := by
 obtain ⟨k, ⟨h1, h2⟩, h3⟩ := QR (p := fun u => Rch nx v u ∧ Rch nx u v) v ⟨.refl v, .refl v⟩
 exact ⟨k, k, rfl, h1, h2, fun u a b => h3 u ⟨a, b⟩⟩
noncomputable def partOf (nx : Nat → List Nat) (v : Nat) : Int := Classical.choose (LZ nx v)
theorem D2 (nx : Nat → List Nat) (v : Nat) : EL nx v (partOf nx v) := Classical.choose_spec (LZ nx v)
theorem Nn {nx : Nat → List Nat} {v : Nat} {m : Int} (h : EL nx v m) : m = partOf nx v := P0 h (D2 nx v)
noncomputable def FP (g : Gn) : List Int := (List.range g.spots.length).map (partOf g.nx)
theorem NK (g : Gn) : (FP g).length = g.spots.length := by simp [FP]
theorem US (g : Gn) (i : Nat) (h : i < (FP g).length) : (FP g)[i] = partOf g.nx i := by simp [FP]
theorem Ti {nx : Nat → List Nat} {u v : Nat} : partOf nx u = partOf nx v ↔ Rch nx u v ∧ Rch nx v u := by
 obtain ⟨k, e, a1, a2, a3⟩ := D2 nx u
 obtain ⟨k', e', b1, b2, b3⟩ := D2 nx v
 constructor
 · intro h
   have : k = k' := by omega
   subst this
   exact ⟨a1.trans b2, b1.trans a2⟩
 · rintro ⟨h1, h2⟩
   exact (Nn (v := u) ⟨k', e', h1.trans b1, b2.trans h2, fun w c1 c2 => b3 w (h2.trans c1) (c2.trans h1)⟩).symm
theorem GA {nx : Nat → List Nat} (v : Nat) : 0 ≤ partOf nx v ∧ partOf nx v ≤ v := by
 obtain ⟨k, e, a1, a2, a3⟩ := D2 nx v
 have := a3 v (.refl v) (.refl v)
 omega

def bi (l : List Bool) (i : Nat) : Bool := (l[i]?).getD false
theorem L6 (l : List Bool) (i : Nat) (h : i < l.length) : bi l i = l[i] := by simp [bi, List.getElem?_eq_getElem h]
theorem Jq (l : List Bool) (i j : Nat) (v : Bool) (h : i < l.length) : bi (l.set i v) j = if j = i then v else bi l j := by
 unfold bi
 by_cases e : j = i
 · subst e; rw [if_pos rfl, List.getElem?_set_self h]; rfl
 · rw [if_neg e, List.getElem?_set_ne (Ne.symm e)]
def Gv : List Bool → Nat
 | [] => 0
 | b :: l => (if b then 0 else 1) + Gv l
theorem Lk : ∀ (l : List Bool) (i : Nat) (h : i < l.length), l[i] = false → Gv (l.set i true) + 1 = Gv l
 | [], i, h, _ => by simp at h
 | b :: l, 0, _, h0 => by
   have : b = false := h0
   subst this
   simp [Gv, Nat.add_comm]
 | b :: l, i + 1, h, h0 => by
   have ih := Lk l i (by simpa using h) (by simpa using h0)
   simp only [List.set_cons_succ, Gv]
   omega

def Bh (p : List Bool × List Nat) (i : Nat) : List Bool × List Nat := if bi p.1 i then p else (p.1.set i true, p.2 ++ [i])
structure RI (g : Gn) (x : Option (Nat × Nat)) (k : Nat) (p : List Bool × List Nat) : Prop where
 len : p.1.length = g.spots.length
 todo : ∀ v ∈ p.2, v < g.spots.length ∧ bi p.1 v = true
 sound : ∀ v, bi p.1 v = true → Cu g v
 init : ∀ j, j < k → bi p.1 j = true
 cl : ∀ v, bi p.1 v = true → v ∉ p.2 → ∀ (m : Nat) (hm : m < (g.nx v).length), (∀ j, x = some (v, j) → m < j) → bi p.1 ((g.nx v)[m]) = true
def muR (p : List Bool × List Nat) : Nat := 2 * Gv p.1 + p.2.length
theorem Rc {p : List Bool × List Nat} {i : Nat} (h : i < p.1.length) : muR (Bh p i) ≤ muR p := by
 unfold Bh
 split
 · exact Nat.le_refl _
 · rename_i hb
   have := Lk p.1 i h (by rw [L6 _ _ h] at hb; simpa using hb)
   simp only [muR, List.length_append, List.length_singleton]
   omega
theorem FG {p : List Bool × List Nat} {i v : Nat} (h : i < p.1.length) (hv : bi p.1 v = true) : bi (Bh p i).1 v = true := by
 unfold Bh
 split
 · exact hv
 · rw [Jq _ _ _ _ h]; split
   · rfl
   · exact hv
theorem IP {p : List Bool × List Nat} {i : Nat} (h : i < p.1.length) : bi (Bh p i).1 i = true := by
 unfold Bh
 split
 · assumption
 · rw [Jq _ _ _ _ h, if_pos rfl]
theorem P4 (p : List Bool × List Nat) (i : Nat) : (Bh p i).1.length = p.1.length := by
 unfold Bh; split <;> simp
theorem RI.visit {g : Gn} {x : Option (Nat × Nat)} {k i : Nat} {p : List Bool × List Nat} (t : RI g x k p) (hi : i < g.spots.length) (hr : Cu g i) : RI g x k (Bh p i) := by
 have hil : i < p.1.length := by rw [t.len]; exact hi
 refine ⟨by rw [P4, t.len], fun v hv => ?_, fun v hv => ?_, fun j hj => FG hil (t.init j hj), fun v hv hn m hm hx => ?_⟩
 · by_cases hb : bi p.1 i = true
   · rw [Bh, if_pos hb] at hv ⊢; exact t.todo v hv
   · have hv' : v ∈ p.2 ∨ v = i := by rw [Bh, if_neg hb] at hv; simpa using hv
     rcases hv' with h | h
     · exact ⟨(t.todo v h).1, FG hil (t.todo v h).2⟩
     · rw [h]; exact ⟨hi, IP hil⟩
 · by_cases e : v = i
   · rw [e]; exact hr
   · unfold Bh at hv
     split at hv
     · exact t.sound v hv
     · rw [Jq _ _ _ _ hil, if_neg e] at hv; exact t.sound v hv
 · by_cases hb : bi p.1 i = true
   · rw [Bh, if_pos hb] at hv hn ⊢; exact t.cl v hv hn m hm hx
   · have hn' : v ∉ p.2 ∧ v ≠ i := by rw [Bh, if_neg hb] at hn; simpa using hn
     have hv' : bi p.1 v = true := by rw [Bh, if_neg hb, Jq _ _ _ _ hil, if_neg hn'.2] at hv; exact hv
     exact FG hil (t.cl v hv' hn'.1 m hm hx)
theorem RI.start (g : Gn) : RI g none 0 (List.replicate g.spots.length false, []) where
 len := by simp
 todo := by simp
 sound v h := by simp [bi, List.getElem?_replicate] at h; split at h <;> simp at h
 init j h := by omega
 cl v h := by simp [bi, List.getElem?_replicate] at h; split at h <;> simp at h
theorem RI.initStep {g : Gn} (hok : g.ok) {k : Nat} {p : List Bool × List Nat} (t : RI g none k p) (hk : k < g.init) : RI g none (k + 1) (Bh p k) := by
 have hi : k < g.spots.length := Nat.lt_of_lt_of_le hk hok.init
 have t' := t.visit hi ⟨k, hk, .refl k⟩
 refine { t' with init := fun j hj => ?_ }
 by_cases e : j = k
 · rw [e]; exact IP (by rw [t.len]; exact hi)
 · exact t'.init j (by omega)
theorem RI.pop {g : Gn} {k v : Nat} {p : List Bool × List Nat} {r : List Nat} (t : RI g none k p) (hp : p.2 = r ++ [v]) : RI g (some (v, 0)) k (p.1, r) where
 len := t.len
 todo w hw := t.todo w (by rw [hp]; exact List.mem_append.2 (.inl hw))
 sound := t.sound
 init := t.init
 cl w hw hn m hm hx := by
  by_cases e : w = v
  · have := hx 0 (by rw [e]); omega
  · exact t.cl w hw (by rw [hp]; simp [e, hn]) m hm fun j h => by cases h
theorem RI.edge {g : Gn} (hok : g.ok) {k v j : Nat} {p : List Bool × List Nat} (t : RI g (some (v, j)) k p) (hv : bi p.1 v = true) (hj : j < (g.nx v).length) : RI g (some (v, j + 1)) k (Bh p (g.nx v)[j]) := by
 have hw := g.nx_lt hok v _ (List.getElem_mem hj)
 have hr : Cu g (g.nx v)[j] := by
  obtain ⟨a, h1, h2⟩ := t.sound v hv
  exact ⟨a, h1, .step h2 (List.getElem_mem hj)⟩
 have t' := t.visit hw hr
 refine { t' with cl := fun u hu hn m hm hx => ?_ }
 by_cases e : u = v ∧ m = j
 · obtain ⟨rfl, rfl⟩ := e
   exact IP (by rw [t.len]; exact hw)
 · refine t'.cl u hu hn m hm fun i hi => ?_
   cases hi
   have := hx (j + 1) rfl
   have : m ≠ j := fun h => e ⟨rfl, h⟩
   omega
theorem RI.done {g : Gn} {k v : Nat} {p : List Bool × List Nat} (t : RI g (some (v, (g.nx v).length)) k p) : RI g none k p :=
 { t with cl := fun w hw hn m hm _ => t.cl w hw hn m hm fun j h => by cases h; exact hm }
theorem RI.all {g : Gn} {p : List Bool × List Nat} (t : RI g none g.init p) (h0 : p.2 = []) : p.1 = CX g := by
 refine List.ext_getElem (by rw [t.len]; simp [CX]) fun i h1 h2 => ?_
 have e : (CX g)[i] = decide (Cu g i) := by simp [CX]
 rw [e, ← L6 _ _ h1]
 have key : bi p.1 i = true ↔ Cu g i := by
  refine ⟨t.sound i, fun ⟨j, hj, hr⟩ => ?_⟩
  refine Rch.closed (S := fun v => bi p.1 v = true) (fun v hv w hw => ?_) hr (t.init j hj)
  obtain ⟨m, hm, rfl⟩ := List.getElem_of_mem hw
  exact t.cl v hv (by rw [h0]; simp) m hm fun _ h => by cases h
 by_cases h : Cu g i
 · rw [key.2 h, decide_eq_true h]
 · rw [decide_eq_false h]
   cases hb : bi p.1 i with
   | false => rfl
   | true => exact absurd (key.1 hb) h

def dE (nx : Nat → List Nat) (fr : List Nat) (i : Nat) : Prop := ∃ j ∈ fr, Rch nx j i
structure FI (nx : Nat → List Nat) (n : Nat) (fr : List Nat) (x : Option (Nat × Nat)) (st : List Int) : Prop where
 len : st.length = n
 val : ∀ v, gi st v = 0 ∨ gi st v = 1 ∨ gi st v = 2
 sound : ∀ v, gi st v ≠ 0 → dE nx fr v
 init : ∀ v ∈ fr, gi st v ≠ 0
 cl : ∀ v, gi st v = 2 → ∀ (m : Nat) (hm : m < (nx v).length), (∀ j, x = some (v, j) → m < j) → gi st (nx v)[m] ≠ 0
noncomputable def YB (g : Gr) : Gn := open Classical in if h : okG g then Classical.choose (Ix h) else ⟨[], 0, [], [], 0⟩
theorem Gn.gr_inj {a b : Gn} (h : a.gr = b.gr) : a = b := by
 obtain ⟨a1, a2, a3, a4, a5⟩ := a
 obtain ⟨b1, b2, b3, b4, b5⟩ := b
 simp only [Gn.gr, Gr.mk.injEq] at h
 obtain ⟨h1, h2, h3, h4, h5⟩ := h
 have hinj : Function.Injective (fun k : Nat => (k : Int)) := fun x y h => by have h' : (x : Int) = y := h; omega
 have e3 : a3 = b3 := List.map_inj_right (fun x y h => List.map_inj_right (fun _ _ h => hinj h) |>.1 h) |>.1 h3
 have e4 : a4 = b4 := List.map_inj_right (fun _ _ h => hinj h) |>.1 h4
 subst h1 e3 e4
 have e2 : a2 = b2 := by omega
 have e5 : a5 = b5 := by omega
 subst e2 e5
 rfl
theorem OX {g : Gn} (h : g.ok) : YB g.gr = g := by
 have hk := (Gn.ok_gr h)
 unfold YB
 rw [dif_pos hk]
 exact Gn.gr_inj (Classical.choose_spec (Ix hk)).1
noncomputable def EY (g : Gr) : List Bool × Int := open Classical in if okG g then (CX (YB g), 0) else ([], 9)
theorem JJ {g : Gn} (h : g.ok) : EY g.gr = (CX g, 0) := by rw [EY, if_pos (Gn.ok_gr h), OX h]
theorem Om {g : Gr} (h : ¬ okG g) : EY g = ([], 9) := by rw [EY, if_neg h]
open Go Go.Av

end Go.Sp
namespace Go.Proofs
open Go.Shelf
def Tryz.lays189_ren : Go.Shelf.Ren := ⟨fun | 189 => 174 | 125 => 186 | 257 => 185 | 128 => 197 | 129 => 161 | 294 => 188 | 295 => 189 | 296 => 190 | 297 => 191 | 298 => 192 | 299 => 193 | 216 => 194 | 300 => 195 | 301 => 196 | 328 => 198 | 329 => 199 | 330 => 200 | 331 => 201 | 332 => 202 | 215 => 203 | 343 => 204 | n => n, fun | 28 => 43 | 3 => 3 | 46 => 219 | 0 => 0 | 51 => 234 | 53 => 199 | 4 => 4 | 183 => 262 | 182 => 261 | 131 => 134 | 5 => 5 | 9 => 9 | 218 => 268 | 222 => 272 | 228 => 274 | 229 => 275 | n => n, fun | n => n⟩
theorem Tryz.lays189 : Go.Proofs.Lays.n189 Tryz.prog Tryz.lays189_ren := {
 mixed := by kernel_rfl
 f125 := Tryz.func186.trans (congrArg some (by kernel_rfl))
 f128 := Tryz.func197.trans (congrArg some (by kernel_rfl))
 f129 := Tryz.func161.trans (congrArg some (by kernel_rfl))
 f189 := Tryz.func174.trans (congrArg some (by kernel_rfl))
 f215 := Tryz.func203.trans (congrArg some (by kernel_rfl))
 f216 := Tryz.func194.trans (congrArg some (by kernel_rfl))
 f257 := Tryz.func185.trans (congrArg some (by kernel_rfl))
 f294 := Tryz.func188.trans (congrArg some (by kernel_rfl))
 f295 := Tryz.func189.trans (congrArg some (by kernel_rfl))
 f296 := Tryz.func190.trans (congrArg some (by kernel_rfl))
 f297 := Tryz.func191.trans (congrArg some (by kernel_rfl))
 f298 := Tryz.func192.trans (congrArg some (by kernel_rfl))
 f299 := Tryz.func193.trans (congrArg some (by kernel_rfl))
 f300 := Tryz.func195.trans (congrArg some (by kernel_rfl))
 f301 := Tryz.func196.trans (congrArg some (by kernel_rfl))
 f328 := Tryz.func198.trans (congrArg some (by kernel_rfl))
 f329 := Tryz.func199.trans (congrArg some (by kernel_rfl))
 f330 := Tryz.func200.trans (congrArg some (by kernel_rfl))
 f331 := Tryz.func201.trans (congrArg some (by kernel_rfl))
 f332 := Tryz.func202.trans (congrArg some (by kernel_rfl))
 f343 := Tryz.func204.trans (congrArg some (by kernel_rfl))
 t0 := Tryz.underlying0
 a0 := Tryz.isAgg0
 z0 := Tryz.sizeOf0
 v0 := Tryz.zeroValue0
 t3 := Tryz.underlying3
 a3 := Tryz.isAgg3
 z3 := Tryz.sizeOf3
 v3 := Tryz.zeroValue3
 t4 := Tryz.underlying4
 a4 := Tryz.isAgg4
 z4 := Tryz.sizeOf4
 v4 := Tryz.zeroValue4
 t5 := Tryz.underlying5
 a5 := Tryz.isAgg5
 z5 := Tryz.sizeOf5
 v5 := Tryz.zeroValue5
 t9 := Tryz.underlying9
 a9 := Tryz.isAgg9
 z9 := Tryz.sizeOf9
 v9 := Tryz.zeroValue9
 t28 := Tryz.underlying43
 a28 := Tryz.isAgg43
 z28 := Tryz.sizeOf43
 v28 := Tryz.zeroValue43
 t46 := Tryz.underlying219
 a46 := Tryz.isAgg219
 z46 := Tryz.sizeOf219
 v46 := Tryz.zeroValue219
 t51 := Tryz.underlying234
 a51 := Tryz.isAgg234
 z51 := Tryz.sizeOf234
 v51 := Tryz.zeroValue234
 t53 := Tryz.underlying199
 a53 := Tryz.isAgg199
 z53 := Tryz.sizeOf199
 v53 := Tryz.zeroValue199
 t131 := Tryz.underlying134
 a131 := Tryz.isAgg134
 z131 := Tryz.sizeOf134
 v131 := Tryz.zeroValue134
 t182 := Tryz.underlying261
 a182 := Tryz.isAgg261
 z182 := Tryz.sizeOf261
 v182 := Tryz.zeroValue261
 t183 := Tryz.underlying262
 a183 := Tryz.isAgg262
 z183 := Tryz.sizeOf262
 v183 := Tryz.zeroValue262
 t218 := Tryz.underlying268
 a218 := Tryz.isAgg268
 z218 := Tryz.sizeOf268
 v218 := Tryz.zeroValue268
 t222 := Tryz.underlying272
 a222 := Tryz.isAgg272
 z222 := Tryz.sizeOf272
 v222 := Tryz.zeroValue272
 t228 := Tryz.underlying274
 a228 := Tryz.isAgg274
 z228 := Tryz.sizeOf274
 v228 := Tryz.zeroValue274
 t229 := Tryz.underlying275
 a229 := Tryz.isAgg275
 z229 := Tryz.sizeOf275
 v229 := Tryz.zeroValue275 }
def Tryz.lays20_ren : Go.Shelf.Ren := ⟨fun | 20 => 175 | n => n, fun | 22 => 43 | 3 => 3 | 4 => 4 | 0 => 0 | n => n, fun | n => n⟩
theorem Tryz.lays20 : Go.Proofs.Lays2.n20 Tryz.prog Tryz.lays20_ren := {
 mixed := by kernel_rfl
 f20 := Tryz.func175.trans (congrArg some (by kernel_rfl))
 t0 := Tryz.underlying0
 a0 := Tryz.isAgg0
 z0 := Tryz.sizeOf0
 v0 := Tryz.zeroValue0
 t3 := Tryz.underlying3
 a3 := Tryz.isAgg3
 z3 := Tryz.sizeOf3
 v3 := Tryz.zeroValue3
 t4 := Tryz.underlying4
 a4 := Tryz.isAgg4
 z4 := Tryz.sizeOf4
 v4 := Tryz.zeroValue4
 t22 := Tryz.underlying43
 a22 := Tryz.isAgg43
 z22 := Tryz.sizeOf43
 v22 := Tryz.zeroValue43
 i3 := by kernel_rfl }
end Go.Proofs
