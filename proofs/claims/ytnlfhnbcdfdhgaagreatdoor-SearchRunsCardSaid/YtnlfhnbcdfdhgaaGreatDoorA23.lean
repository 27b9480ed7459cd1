/- Own texts. -/
import Derived.Shelf.Sort.Plain
import Derived.Shelf.Slices.In.SortNone
import Derived.Shelf.Slices.CompactI
import Derived.Test.YtnlfhnbcdfdhgaaGreatDoorA22
set_option linter.unusedVariables false
set_option linter.unusedSimpArgs false
set_option maxRecDepth 100000
set_option maxHeartbeats 4000000
namespace Go.Sp
open Go Go.Av
section
variable {t : Tk} {e : Exp}
theorem Ze (t : Tk) : ∀ n, byF t n + 4 * nkF t 0 = 12 * n + 4 * nkF t n
 | 0 => by show 0 + 4 * nkF t 0 = 12 * 0 + 4 * nkF t 0; omega
 | n + 1 => by
   have h := Ze t n
   have h1 := MJ t (Nat.zero_le n)
   have h2 := MJ t (Nat.le_add_right n 1)
   show byF t n + rsF t n + 4 * nkF t 0 = _
   unfold rsF
   omega
theorem Grown.fits (g : Grown t e) {n : Nat} (h : n ≤ e.spots.length) : byF t n ≤ 1048576 := by
 have h1 := Ze t n
 have h2 := g.nk h
 have h3 := g.few
 omega
theorem Grown.goes (g : Grown t e) {x : Ms} (h : x.n ≤ e.spots.length) : JZ t x ↔ x.n < e.spots.length := by
 constructor
 · intro k
   have := k.1
   have := g.nk h
   omega
 · intro k
   exact ⟨g.nk_at k, g.fits k⟩
theorem Zz (g : Grown t e) : ∀ (k : Nat) {x : Ms}, MsI t e x →
 (wkF t k x).up = x.up ∧ (wkF t k x).s = x.s ∧ (wkF t k x).n = min (x.n + k) e.spots.length ∧ (wkF t k x).a + ((wkF t k x).m - (wkF t k x).n) = x.a + (x.m - x.n)
 | 0, x, h => by
   have := h.nN
   exact ⟨rfl, rfl, by rw [wkF]; omega, rfl⟩
 | k + 1, x, h => by
   have h1 := h.nN
   have h2 := h.n
   rw [wkF]
   by_cases c : JZ t x
   · rw [if_pos c]
     have c' := (g.goes h1).1 c
     obtain ⟨a1, a2, a3, a4⟩ := Zz g k (h.go g c)
     rw [a1, a2, a3, ← a3, a4]
     refine ⟨rfl, rfl, ?_, ?_⟩
     · rw [a3]; show min (x.n + 1 + k) _ = _; omega
     · show (if x.n < x.m then x.a + 1 else x.a) + (max x.m (x.n + 1) - (x.n + 1)) = _
       split <;> omega
   · rw [if_neg c]
     have : ¬ x.n < e.spots.length := fun k => c ((g.goes h1).2 k)
     exact ⟨rfl, rfl, by omega, rfl⟩
def DnI (x : Ms) : Prop := x.up = false → x.s = x.n
theorem DnI.mv {x : Ms} (h : DnI x) (m : Fo) (hw : ∀ k, (wkF t k x).up = x.up) : DnI (mvF t x m) := by
 unfold mvF DnI
 split
 · intro h; cases h
 split
 · exact h
 split
 · intro k; rw [hw] at k; rename_i u _; exact absurd k u
 split
 · intro k; rfl
 · intro k; rfl
theorem Yz (t : Tk) (l : List Fo) (m : Fo) : runM t (l ++ [m]) = mvF t (runM t l) m := by unfold runM; rw [List.foldl_append]; rfl
structure Ih (t : Tk) (e : Exp) (x : Ms) : Prop where
 ms : MsI t e x
 dn : DnI x
theorem Ih.mv (g : Grown t e) {x : Ms} (h : Ih t e x) (m : Fo) : Ih t e (mvF t x m) :=
 ⟨h.ms.mv g m, h.dn.mv m fun k => (Zz g k h.ms).1⟩
theorem Ih.run (g : Grown t e) : ∀ (l : List Fo) {x : Ms}, Ih t e x → Ih t e (l.foldl (mvF t) x)
 | [], _, h => h
 | m :: l, _, h => Ih.run g l (h.mv g m)
theorem Ih.nil : Ih t e Tq := ⟨MsI.nil, fun h => by cases h⟩
theorem Grown.runI (g : Grown t e) (l : List Fo) : Ih t e (runM t l) := Ih.run g l Ih.nil
theorem S4 (x : Ms) (k : Int) : mvF t x ⟨4, k⟩ = ⟨true, x.n, x.s, x.m, x.a⟩ := by unfold mvF; rw [if_pos rfl]
theorem Ve {x : Ms} (h : x.up = false) {m : Fo} (hm : m.kind ≠ 4) : mvF t x m = x := by unfold mvF; rw [if_neg hm, if_pos h]
theorem WG {x : Ms} (h : x.up = true) (k : Int) : mvF t x ⟨1, k⟩ = wkF t k.toNat x := by
 unfold mvF; rw [if_neg (by dsimp only; decide), if_neg (by rw [h]; decide), if_pos rfl]
theorem Vj {x : Ms} (h : x.up = true) (k : Int) : mvF t x ⟨2, k⟩ = ⟨x.up, x.n, x.n, x.m, x.a⟩ := by
 unfold mvF; rw [if_neg (by dsimp only; decide), if_neg (by rw [h]; decide), if_neg (by dsimp only; decide), if_pos rfl]
theorem TK {x : Ms} (h : x.up = true) (k : Int) : mvF t x ⟨3, k⟩ = ⟨false, kpF t (byF t x.s + k.toNat) x.n, kpF t (byF t x.s + k.toNat) x.n, x.m, x.a⟩ := by
 unfold mvF; rw [if_neg (by dsimp only; decide), if_neg (by rw [h]; decide), if_neg (by dsimp only; decide), if_neg (by dsimp only; decide)]
theorem Ih.bounds (g : Grown t e) {x : Ms} (h : Ih t e x) : x.s ≤ x.n ∧ x.n ≤ nkF t x.n ∧ nkF t x.n ≤ e.spots.length ∧ nkF t 0 ≤ nkF t x.n := by
 have h1 := h.ms.nN
 refine ⟨h.ms.s, ?_, g.nk h1, MJ t (Nat.zero_le _)⟩
 rcases Nat.lt_or_ge x.n e.spots.length with c | c
 · have := g.nk_at c; omega
 · have e1 : x.n = e.spots.length := by omega
   rw [e1, g.nk_end]; exact Nat.le_refl _
end
end Go.Sp
namespace Go.Proofs
open Go.Shelf
def Tryz.lays189_ren : Go.Shelf.Ren := ⟨fun | 189 => 143 | 125 => 181 | 257 => 180 | 128 => 202 | 129 => 203 | 294 => 194 | 295 => 195 | 296 => 196 | 297 => 197 | 298 => 198 | 299 => 199 | 216 => 185 | 300 => 200 | 301 => 201 | 328 => 209 | 329 => 210 | 330 => 211 | 331 => 212 | 332 => 213 | 215 => 205 | 343 => 214 | n => n, fun | 28 => 49 | 3 => 3 | 46 => 207 | 0 => 0 | 51 => 250 | 53 => 252 | 4 => 4 | 183 => 244 | 182 => 243 | 131 => 107 | 5 => 5 | 9 => 9 | 218 => 255 | 222 => 259 | 228 => 261 | 229 => 262 | n => n, fun | n => n⟩
theorem Tryz.lays189 : Go.Proofs.Lays.n189 Tryz.prog Tryz.lays189_ren := {
 mixed := by kernel_rfl
 f125 := Tryz.func181.trans (congrArg some (by kernel_rfl))
 f128 := Tryz.func202.trans (congrArg some (by kernel_rfl))
 f129 := Tryz.func203.trans (congrArg some (by kernel_rfl))
 f189 := Tryz.func143.trans (congrArg some (by kernel_rfl))
 f215 := Tryz.func205.trans (congrArg some (by kernel_rfl))
 f216 := Tryz.func185.trans (congrArg some (by kernel_rfl))
 f257 := Tryz.func180.trans (congrArg some (by kernel_rfl))
 f294 := Tryz.func194.trans (congrArg some (by kernel_rfl))
 f295 := Tryz.func195.trans (congrArg some (by kernel_rfl))
 f296 := Tryz.func196.trans (congrArg some (by kernel_rfl))
 f297 := Tryz.func197.trans (congrArg some (by kernel_rfl))
 f298 := Tryz.func198.trans (congrArg some (by kernel_rfl))
 f299 := Tryz.func199.trans (congrArg some (by kernel_rfl))
 f300 := Tryz.func200.trans (congrArg some (by kernel_rfl))
 f301 := Tryz.func201.trans (congrArg some (by kernel_rfl))
 f328 := Tryz.func209.trans (congrArg some (by kernel_rfl))
 f329 := Tryz.func210.trans (congrArg some (by kernel_rfl))
 f330 := Tryz.func211.trans (congrArg some (by kernel_rfl))
 f331 := Tryz.func212.trans (congrArg some (by kernel_rfl))
 f332 := Tryz.func213.trans (congrArg some (by kernel_rfl))
 f343 := Tryz.func214.trans (congrArg some (by kernel_rfl))
 t0 := Tryz.underlying0
 a0 := Tryz.isAgg0
 z0 := Tryz.sizeOf0
 v0 := Tryz.zeroValue0
 t3 := Tryz.underlying3
 a3 := Tryz.isAgg3
 z3 := Tryz.sizeOf3
 v3 := Tryz.zeroValue3
 t4 := Tryz.underlying4
 a4 := Tryz.isAgg4
 z4 := Tryz.sizeOf4
 v4 := Tryz.zeroValue4
 t5 := Tryz.underlying5
 a5 := Tryz.isAgg5
 z5 := Tryz.sizeOf5
 v5 := Tryz.zeroValue5
 t9 := Tryz.underlying9
 a9 := Tryz.isAgg9
 z9 := Tryz.sizeOf9
 v9 := Tryz.zeroValue9
 t28 := Tryz.underlying49
 a28 := Tryz.isAgg49
 z28 := Tryz.sizeOf49
 v28 := Tryz.zeroValue49
 t46 := Tryz.underlying207
 a46 := Tryz.isAgg207
 z46 := Tryz.sizeOf207
 v46 := Tryz.zeroValue207
 t51 := Tryz.underlying250
 a51 := Tryz.isAgg250
 z51 := Tryz.sizeOf250
 v51 := Tryz.zeroValue250
 t53 := Tryz.underlying252
 a53 := Tryz.isAgg252
 z53 := Tryz.sizeOf252
 v53 := Tryz.zeroValue252
 t131 := Tryz.underlying107
 a131 := Tryz.isAgg107
 z131 := Tryz.sizeOf107
 v131 := Tryz.zeroValue107
 t182 := Tryz.underlying243
 a182 := Tryz.isAgg243
 z182 := Tryz.sizeOf243
 v182 := Tryz.zeroValue243
 t183 := Tryz.underlying244
 a183 := Tryz.isAgg244
 z183 := Tryz.sizeOf244
 v183 := Tryz.zeroValue244
 t218 := Tryz.underlying255
 a218 := Tryz.isAgg255
 z218 := Tryz.sizeOf255
 v218 := Tryz.zeroValue255
 t222 := Tryz.underlying259
 a222 := Tryz.isAgg259
 z222 := Tryz.sizeOf259
 v222 := Tryz.zeroValue259
 t228 := Tryz.underlying261
 a228 := Tryz.isAgg261
 z228 := Tryz.sizeOf261
 v228 := Tryz.zeroValue261
 t229 := Tryz.underlying262
 a229 := Tryz.isAgg262
 z229 := Tryz.sizeOf262
 v229 := Tryz.zeroValue262 }
def Tryz.lays20_ren : Go.Shelf.Ren := ⟨fun | 20 => 178 | n => n, fun | 22 => 49 | 3 => 3 | 4 => 4 | 0 => 0 | n => n, fun | n => n⟩
theorem Tryz.lays20 : Go.Proofs.Lays2.n20 Tryz.prog Tryz.lays20_ren := {
 mixed := by kernel_rfl
 f20 := Tryz.func178.trans (congrArg some (by kernel_rfl))
 t0 := Tryz.underlying0
 a0 := Tryz.isAgg0
 z0 := Tryz.sizeOf0
 v0 := Tryz.zeroValue0
 t3 := Tryz.underlying3
 a3 := Tryz.isAgg3
 z3 := Tryz.sizeOf3
 v3 := Tryz.zeroValue3
 t4 := Tryz.underlying4
 a4 := Tryz.isAgg4
 z4 := Tryz.sizeOf4
 v4 := Tryz.zeroValue4
 t22 := Tryz.underlying49
 a22 := Tryz.isAgg49
 z22 := Tryz.sizeOf49
 v22 := Tryz.zeroValue49
 i3 := by kernel_rfl }
end Go.Proofs
namespace Go.Proofs.YtnlfhnbcdfdhgaaGreatDoor
open Go Go.Av Go.Sp
theorem D7 : Cal Tryz.prog 143 := Cal.of Tryz.func143 (by kernel_rfl) (by kernel_rfl)
theorem RE : Cal Tryz.prog 178 := Cal.of Tryz.func178 (by kernel_rfl) (by kernel_rfl)
theorem UF : Cal Tryz.prog 184 := Cal.of Tryz.func184 (by kernel_rfl) (by kernel_rfl)
theorem Ot : Cal Tryz.prog 148 := Cal.of Tryz.func148 (by kernel_rfl) (by kernel_rfl)
theorem dv (G : List (Nat × List D)) (q : Sl) (xs : List Int) (hb : xs.length < 4611686018427387904) : AC Tryz.prog G 143 [.val q.v] [AL q.v 3 1 AS xs] fun e h => e = .ret (.tup []) ∧ h = [AL q.v 3 1 AS (Ba xs)] :=
 aE q xs hb (fun blk cap zs w h1 h2 h3 => Any.slices_Sort_int Tryz.lays189 blk 0 cap zs w h1 h2 h3) fun w => Any.slices_Sort_int_none Tryz.lays189 none 0 w
theorem CompactI (G : List (Nat × List D)) (q : Sl) (xs : List Int) (hb : xs.length ≤ 9223372036854775807) (hk : (Lib.compact xs).length ≤ xs.length) : AC Tryz.prog G 178 [.val q.v] [AL q.v 3 1 AS xs] fun e h => ∃ q' : Sl, e = .ret (.val q'.v) ∧ h = [AL q'.v 3 1 AS (Lib.compact xs)] :=
 S3 q xs hb hk (fun blk cap zs w h1 h2 h3 => Any.slices_Compact_int Tryz.lays20 blk 0 cap zs w h1 h2 h3) fun w => Any.slices_Compact_int_empty Tryz.lays20 none 0 w
def FF (v : Int) : List Int → Nat → Int
 | [], _ => -1
 | x :: l, i => if v = x then i else FF v l (i + 1)
theorem Wu (v : Int) (l : List Int) (i : Nat) (h : i < l.length) : FF v (l.drop i) i = if v = l[i] then (i : Int) else FF v (l.drop (i + 1)) (i + 1) := by
 rw [ja h, FF]
theorem Uj (v : Int) (l : List Int) (i : Nat) (h : l.length ≤ i) : FF v (l.drop i) i = -1 := by
 rw [List.drop_of_length_le h, FF]
theorem Oz (v : Int) : ∀ (l : List Int) (i : Nat), 0 ≤ FF v l i ↔ v ∈ l
 | [], i => by simp [FF]
 | x :: l, i => by
   rw [FF, List.mem_cons]
   by_cases h : v = x
   · rw [if_pos h]; exact ⟨fun _ => .inl h, fun _ => by omega⟩
   · rw [if_neg h, Oz v l (i + 1)]; exact ⟨.inr, fun k => k.resolve_left h⟩
theorem fW (G : List (Nat × List D)) (l : List Int) (v : Int) : ACr Tryz.prog G 184 [.d (AJ l), .int v] (.int (FF v l 0)) := by
 refine AK (ts := [4]) Tryz.f184.ntmps Tryz.func184 rfl rfl rfl (by simp [Tryz.ntmps184]) fun W I => ?_
 refine Bn (t := 0) rfl fun hl => ?_
 repeat' (first | exact jA | refine AF ?_ | refine two ?_ ?_ | refine AB fun c_ => ?_ | refine imp fun hc => ?_; try exact cx1 hc | refine all fun v_ => ?_)
 refine AG (X := Nat) (fun i => [(0, .d (AJ l)), (1, .int v), (7, .int l.length), (8, .int i)]) (fun _ => []) (fun i => i ≤ l.length ∧ FF v l 0 = FF v (l.drop i) i) (fun i => l.length - i) 0 ⟨Nat.zero_le _, rfl⟩ (VS.of_le ?_) ?_
 · exact leD
 rintro i ⟨h1, h2⟩
 by_cases hi : i < l.length
 · rw [Wu v l i hi] at h2
   by_cases hv : v = l[i]
   · rw [if_pos hv] at h2
     repeat' (first | exact jA | refine AF ?_ | refine two ?_ ?_ | refine AB fun c_ => ?_ | refine imp fun hc => ?_; try exact cx1 hc | refine all fun v_ => ?_)
     refine A0 ?_
     ((with_reducible apply rq1); rfl; rfl)
     exact AA (by rw [h2])
   · rw [if_neg hv] at h2
     repeat' (first | exact jA | refine AF ?_ | refine two ?_ ?_ | refine AB fun c_ => ?_ | refine imp fun hc => ?_; try exact cx1 hc | refine all fun v_ => ?_)
     refine ⟨i + 1, ⟨by omega, h2⟩, by omega, VS.of_le ?_⟩
     exact leD
 rw [Uj v l i jB] at h2
 repeat' (first | exact jA | refine AF ?_ | refine two ?_ ?_ | refine AB fun c_ => ?_ | refine imp fun hc => ?_; try exact cx1 hc | refine all fun v_ => ?_)
 refine A0 ?_
 ((with_reducible apply rq1); rfl; rfl)
 exact AA (by rw [h2])
theorem XM (G : List (Nat × List D)) (l : List Int) (v : Int) : ACr Tryz.prog G 148 [.d (AJ l), .int v] (.bool (decide (v ∈ l))) := by
 refine AK (ts := [4]) Tryz.f148.ntmps Tryz.func148 rfl rfl rfl (by simp [Tryz.ntmps148]) fun W I => ?_
 repeat' (first | refine ca UF (fW _ _ _) ?_ | exact jA | refine AF ?_ | refine two ?_ ?_ | refine AB fun c_ => ?_ | refine imp fun hc => ?_; try exact cx1 hc | refine all fun v_ => ?_)
 refine A0 ?_
 ((with_reducible apply rq1); rfl; rfl)
 refine AA (congrArg AV.bool ?_)
 exact decide_eq_decide.2 (Oz v l 0)
theorem CN : Cal Tryz.prog 179 := Cal.of Tryz.func179 (by kernel_rfl) (by kernel_rfl)
theorem Wn : Cal Tryz.prog 144 := Cal.of Tryz.func144 (by kernel_rfl) (by kernel_rfl)
theorem Lb : Cal Tryz.prog 142 := Cal.of Tryz.func142 (by kernel_rfl) (by kernel_rfl)
theorem VM (G : List (Nat × List D)) (xs : List Int) : AC Tryz.prog G 179 [.d (AJ xs)] [] fun r h => ∃ q : Sl, r = .ret (.val q.v) ∧ h = [AL q.v 3 1 AS xs] := by
 refine AK (ts := [2]) Tryz.f179.ntmps Tryz.func179 rfl rfl rfl (by simp [Tryz.ntmps179]) fun W I => ?_
 refine Bn (t := 0) rfl fun hl => ?_
 repeat' (first | ((with_reducible apply WA); (iterate 3 rfl); rfl) | ((with_reducible apply (MY AS)); rfl; (with_reducible exact ElC.h); rfl) | exact jA | refine AP ?_ | refine two ?_ ?_ | refine imp fun hc => ?_; try exact cx hc | refine all fun v_ => ?_)
 · subst hc
   refine AI (VS.nilrow 3 1) ?_
   ((with_reducible apply rq1); rfl; rfl)
   exact ⟨Sl.nil, rfl, rfl⟩
 · refine A0 ?_
   ((with_reducible apply rq1); rfl; rfl)
   exact ⟨v_, rfl, rfl⟩
end Go.Proofs.YtnlfhnbcdfdhgaaGreatDoor
namespace Go.Av
open Go
section
variable {k : Kx} {Q : Exit → Env → H → Prop} {ρ : Env} {h : H} {ops : Array Oper} {l : List Oper} {d : Nat} {ty : TypeId} {pos : String} {after : Array Edge}
theorem jmk0 {α : Type} (f : α → List D) {T E : TypeId} {x y : Operand} {n : Nat} {m : Int} {z : Value} {eb : Nat} (hx : evO ρ x = some (.int 0)) (hy : evO ρ y = some (.int m)) (hmn : m = (n : Int)) (hT : k.P.underlying T = some (.slice E)) (hE : El k.P E z 1 eb) (hz1 : z.oneCell' = true)
 (hb : n * eb ≤ 140737488355328) (hm : n ≤ 140737488355328) (hd : Nat.blt d k.n = true)
 (hj : All fun q : Sl => JL k ops l Q ((d, .val q.v) :: ρ) (AL q.v E 1 f [] :: h)) : JL k ops (⟨some d, .makeSlice T x y, ty, pos, after, none⟩ :: l) Q ρ h := by
 subst hmn
 obtain ⟨i, hi, hz0, hz2, hz3⟩ := hE.get
 refine Ef rfl (fun t ht => by cases ht; exact blt hd) fun I a w h1 h2 => ?_
 have e1 := AQ (h2.ev x) (AD hx)
 have e2 := AQ (h2.ev y) (AD hy)
 have hbi : (i.bytes : Int) * (n : Int) ≤ 281474976710656 := by
  rw [hz3]
  have h : ((eb * n : Nat) : Int) ≤ 281474976710656 := by rw [Nat.mul_comm]; omega
  rwa [Int.natCast_mul] at h
 have hrun := run_make (P := k.P) w T E i z hT hi hz0 .i64 .i64 0 (n : Int) (Int.le_refl _) jB hbi jB
 simp only [Int.toNat_natCast, hz2, Nat.mul_one, Int.toNat_zero] at hrun
 have hmc : (madeCells z.cells n).toList.length = n := by simp [madeCells]
 refine ⟨.slice (some ⟨w.heap.size, 0, none⟩) 0 n, w.alloc (.cells (madeCells z.cells n) E), I, .val (Sl.v ⟨some ⟨w.heap.size, 0, none⟩, 0, n⟩), _, ?_, h1.fresh _ (AL (Sl.v ⟨some ⟨w.heap.size, 0, none⟩, 0, n⟩) E 1 f []) rfl ?_, h2.fresh h1 _, rfl, hj.get ⟨some ⟨w.heap.size, 0, none⟩, 0, n⟩⟩
 · simp [execOp, e1, e2, hrun]
 · refine ⟨[], ⟨by simp, .inr ⟨w.heap.size, n, _, by simp [Sl.v], Nat.zero_le _, heap_alloc_new _ _, by simp, by unfold maxLen; omega, ?_, ?_⟩⟩, ?_⟩
   · simpa using hmc
   · simp
   · trivial
end
end Go.Av
namespace Go.Sp
open Go Go.Av
theorem Wm (ls : List (List Int)) (i : Nat) (h : i < ls.length) : (ls.take (i + 1)).flatten.length = (ls.take i).flatten.length + ls[i].length := by
 rw [DI _ _ h, List.length_append]
end Go.Sp
namespace Go.Proofs.YtnlfhnbcdfdhgaaGreatDoor
open Go Go.Av Go.Sp
theorem QF : Cal Tryz.prog 147 := Cal.of Tryz.func147 (by kernel_rfl) (by kernel_rfl)
theorem J6 : Cal Tryz.prog 183 := Cal.of Tryz.func183 (by kernel_rfl) (by kernel_rfl)
theorem Is : Cal Tryz.prog 204 := Cal.of Tryz.func204 (by kernel_rfl) (by kernel_rfl)
theorem CC : Cal Tryz.prog 182 := Cal.of Tryz.func182 (by kernel_rfl) (by kernel_rfl)
theorem merge (G : List (Nat × List D)) (a b : List Int) (ha : a.Pairwise (· ≤ ·)) (hb : b.Pairwise (· ≤ ·)) (hl : a.length + b.length ≤ 1000000) : AC Tryz.prog G 144 [.d (AJ a), .d (AJ b)] [] fun r h => ∃ q : Sl, r = .ret (.val q.v) ∧ h = [AL q.v 3 1 AS (Ba (a ++ b))] := by
 refine AK (ts := [4]) Tryz.f144.ntmps Tryz.func144 rfl rfl rfl (by simp [Tryz.ntmps144]) fun W I => ?_
 repeat' (first | ((with_reducible apply (jmk0 AS)); rfl; rfl; (focus exact (Int.natCast_add _ _).symm); rfl; (with_reducible exact ElC.h); rfl; omega; omega; rfl) | exact jA | refine AP ?_ | refine two ?_ ?_ | refine imp fun hc => ?_; try exact cx hc | refine all fun v_ => ?_)
 obtain ⟨q, rfl⟩ : ∃ x, x = v_ := ⟨v_, rfl⟩
 refine AG (X := List Int × List Int × List Int × Sl) (fun y => [(0, .d (AJ y.2.1)), (1, .d (AJ y.2.2.1)), (5, .val y.2.2.2.v)]) (fun y => [AL y.2.2.2.v 3 1 AS y.1]) (fun y => Kp a b y.1 y.2.1 y.2.2.1) (fun y => y.2.1.length + y.2.2.1.length) ([], a, b, q) (Kp.start ha hb) (VS.take AH ?_) ?_
 · exact leD
 clear q
 rintro ⟨o, x, y, q⟩ hI
 dsimp only at hI ⊢
 have hil := hI.len
 cases x with
 | nil =>
   have lx : ([] : List Int).length = 0 := rfl
   have hd := hI.done (.inl rfl)
   repeat' (first | exact jA | refine AP ?_ | refine two ?_ ?_ | refine imp fun hc => ?_; try exact cx hc | refine all fun v_ => ?_)
   refine AI (VS.take (hc := [AL v_.v 3 1 AS (Ba (a ++ b))]) (by rw [← hd]; exact AH) (Env.le_refl _)) ?_
   ((with_reducible apply rq1); rfl; rfl)
   exact ⟨v_, rfl, rfl⟩
 | cons u x =>
   have lx : (u :: x).length = x.length + 1 := rfl
   cases y with
   | nil =>
     have ly : ([] : List Int).length = 0 := rfl
     have hd := hI.done (.inr rfl)
     repeat' (first | exact jA | refine AP ?_ | refine two ?_ ?_ | refine imp fun hc => ?_; try exact cx hc | refine all fun v_ => ?_)
     refine AI (VS.take (hc := [AL v_.v 3 1 AS (Ba (a ++ b))]) (by rw [← hd]; exact AH) (Env.le_refl _)) ?_
     ((with_reducible apply rq1); rfl; rfl)
     exact ⟨v_, rfl, rfl⟩
   | cons v y =>
     have ly : (v :: y).length = y.length + 1 := rfl
     by_cases huv : u ≤ v
     · have hn : ¬ (v :: y)[nat_lit 0]'(Nat.succ_pos _) < (u :: x)[nat_lit 0]'(Nat.succ_pos _) := fun (h : v < u) => by omega
       have eo : o ++ [(u :: x)[nat_lit 0]'(Nat.succ_pos _)] = o ++ [u] := rfl
       repeat' (first | exact jA | refine AF ?_ | refine two ?_ ?_ | refine AB fun c_ => ?_ | refine imp fun hc => ?_; try exact cx1 hc | refine all fun v_ => ?_)
       refine ⟨(o ++ [u], x, v :: y, v_), hI.step huv, jC, VS.take (by dsimp only; rw [eo]; exact AH) ?_⟩
       exact leD
     · have hn : (v :: y)[nat_lit 0]'(Nat.succ_pos _) < (u :: x)[nat_lit 0]'(Nat.succ_pos _) := show v < u by omega
       have eo : o ++ [(v :: y)[nat_lit 0]'(Nat.succ_pos _)] = o ++ [v] := rfl
       repeat' (first | exact jA | refine AF ?_ | refine two ?_ ?_ | refine AB fun c_ => ?_ | refine imp fun hc => ?_; try exact cx1 hc | refine all fun v_ => ?_)
       refine ⟨(o ++ [v], y, u :: x, v_), hI.swap.step jB, jC, VS.take (by dsimp only; rw [eo]; exact AH) ?_⟩
       exact leD
theorem aJ (G : List (Nat × List D)) (s : Sto) (hl : s.loose.length ≤ 1000000) (hr : s.runs.flatten.length ≤ 1000000) : ACr Tryz.prog G 142 [stA s] (.int ((Bw s).length : Nat)) := by
 rw [JU]
 refine AC.factI (f := BP) (xs := s.runs) (.agg (.there .here)) fun hlr => ?_
 refine AK (ts := [2]) Tryz.f142.ntmps Tryz.func142 rfl rfl rfl (by simp [Tryz.ntmps142]) fun W I => ?_
 repeat' (first | exact jA | refine AF ?_ | refine two ?_ ?_ | refine AB fun c_ => ?_ | refine imp fun hc => ?_; try exact cx1 hc | refine all fun v_ => ?_)
 refine AG (X := Nat) (fun i => [(3, .int ((s.loose.length + (s.runs.take i).flatten.length : Nat) : Int)), (10, .d (AX s.runs)), (11, .int s.runs.length), (12, .int i)]) (fun _ => []) (fun i => i ≤ s.runs.length) (fun i => s.runs.length - i) 0 (Nat.zero_le _) (VS.trans jE (VS.of_le ?_)) ?_
 · simp only [List.take_zero, List.flatten_nil, List.length_nil, Nat.add_zero]
   exact leD
 intro i hi
 by_cases hil : i < s.runs.length
 · have h1 := Wm s.runs i hil
   have h2 := VT s.runs (i + 1)
   have e1 : ((s.loose.length + (s.runs.take (i + 1)).flatten.length : Nat) : Int) = ((s.loose.length + (s.runs.take i).flatten.length : Nat) : Int) + s.runs[i].length := by rw [h1]; omega
   repeat' (first | exact jA | refine AF ?_ | refine two ?_ ?_ | refine AB fun c_ => ?_ | refine imp fun hc => ?_; try exact cx1 hc | refine all fun v_ => ?_)
   refine ⟨i + 1, by omega, by omega, VS.of_le ?_⟩
   rw [e1]
   exact leD
 obtain rfl : i = s.runs.length := by omega
 rw [List.take_length]
 repeat' (first | exact jA | refine AF ?_ | refine two ?_ ?_ | refine AB fun c_ => ?_ | refine imp fun hc => ?_; try exact cx1 hc | refine all fun v_ => ?_)
 refine A0 ?_
 ((with_reducible apply rq1); rfl; rfl)
 exact AA rfl
theorem key (G : List (Nat × List D)) (n : Int) : ACr Tryz.prog G 147 [.int n] (.bool (decide (FQ n))) := by
 refine AK (ts := [2]) Tryz.f147.ntmps Tryz.func147 rfl rfl rfl (by simp [Tryz.ntmps147]) fun W I => ?_
 unfold FQ
 by_cases h0 : 0 ≤ n
 · repeat' (first | exact jA | refine AF ?_ | refine two ?_ ?_ | refine AB fun c_ => ?_ | refine imp fun hc => ?_; try exact cx1 hc | refine all fun v_ => ?_)
   all_goals
    refine A0 ?_
    ((with_reducible apply rq1); rfl; rfl)
    refine AA (congrArg AV.bool ?_)
    (first | rfl | (refine decide_eq_decide.2 ?_; omega) | (refine (decide_eq_true ?_).symm; omega) | (refine (decide_eq_false ?_).symm; omega) | (refine decide_eq_true ?_; omega) | (refine decide_eq_false ?_; omega))
 · repeat' (first | exact jA | refine AF ?_ | refine two ?_ ?_ | refine AB fun c_ => ?_ | refine imp fun hc => ?_; try exact cx1 hc | refine all fun v_ => ?_)
   all_goals
    refine A0 ?_
    ((with_reducible apply rq1); rfl; rfl)
    refine AA (congrArg AV.bool ?_)
    (first | rfl | (refine decide_eq_decide.2 ?_; omega) | (refine (decide_eq_true ?_).symm; omega) | (refine (decide_eq_false ?_).symm; omega) | (refine decide_eq_true ?_; omega) | (refine decide_eq_false ?_; omega))
end Go.Proofs.YtnlfhnbcdfdhgaaGreatDoor
namespace Go.Sp
open Go Go.Av
def Ly : List Int → Nat → Int
 | [], _ => -1
 | n :: l, i => if FQ n then Ly l (i + 1) else i
theorem dh (l : List Int) (i : Nat) (h : i < l.length) : Ly (l.drop i) i = if FQ l[i] then Ly (l.drop (i + 1)) (i + 1) else (i : Int) := by
 rw [ja h, Ly]
theorem YR (l : List Int) (i : Nat) (h : l.length ≤ i) : Ly (l.drop i) i = -1 := by
 rw [List.drop_of_length_le h, Ly]
theorem V9 : ∀ (l : List Int) (i : Nat), 0 ≤ Ly l i ↔ ¬ ∀ k ∈ l, FQ k
 | [], i => by simp [Ly]
 | n :: l, i => by
   rw [Ly]
   by_cases h : FQ n
   · rw [if_pos h, V9 l (i + 1)]
     exact ⟨fun k a => k fun m hm => a m (List.mem_cons_of_mem _ hm), fun k a => k fun m hm => by
      rcases List.mem_cons.1 hm with rfl | hm
      · exact h
      · exact a m hm⟩
   · rw [if_neg h]
     exact ⟨fun _ a => h (a n List.mem_cons_self), fun _ => by omega⟩
theorem Ni : ∀ ls : List (List Int), (∀ r ∈ ls, r ≠ []) → ls.length ≤ ls.flatten.length
 | [], _ => by simp
 | r :: ls, h => by
   have := Ni ls fun x hx => h x (List.mem_cons_of_mem _ hx)
   have := List.length_pos_iff.2 (h r List.mem_cons_self)
   simp only [List.length_cons, List.flatten_cons, List.length_append]; omega
end Go.Sp
namespace Go.Proofs.YtnlfhnbcdfdhgaaGreatDoor
open Go Go.Av Go.Sp
theorem Iw : Cal Tryz.prog 146 := Cal.of Tryz.func146 (by kernel_rfl) (by kernel_rfl)
theorem nkG (G : List (Nat × List D)) (n : Int) : AC Tryz.prog G 183 [.int n] [] fun r h => ∃ _ : Unit, r = .ret (.bool (!decide (FQ n))) ∧ h = [] := by
 refine AK (ts := [2]) Tryz.f183.ntmps Tryz.func183 rfl rfl rfl (by simp [Tryz.ntmps183]) fun W I => ?_
 repeat' (first | refine ca QF (key _ _) ?_ | exact jA | refine AF ?_ | refine two ?_ ?_ | refine AB fun c_ => ?_ | refine imp fun hc => ?_; try exact cx1 hc | refine all fun v_ => ?_)
 refine A0 ?_
 ((with_reducible apply rq1); rfl; rfl)
 exact ⟨(), rfl, rfl⟩
theorem NI (G : List (Nat × List D)) (l : List Int) : ACr Tryz.prog G 204 [.d (AJ l), .val (.func (.func 183) #[] #[])] (.int (Ly l 0)) := by
 refine AK (ts := [4]) Tryz.f204.ntmps Tryz.func204 rfl rfl rfl (by simp [Tryz.ntmps204]) fun W I => ?_
 refine Bn (t := 0) rfl fun hl => ?_
 repeat' (first | ((with_reducible apply Fy); rfl; rfl; exact J6; (focus exact nkG _ _); exact BF; rfl; exact EI) | exact jA | refine AP ?_ | refine two ?_ ?_ | refine imp fun hc => ?_; try exact cx hc | refine all fun v_ => ?_)
 refine AG (X := Nat) (fun i => [(0, .d (AJ l)), (1, .val (.func (.func 183) #[] #[])), (7, .int l.length), (8, .int i)]) (fun _ => []) (fun i => i ≤ l.length ∧ Ly l 0 = Ly (l.drop i) i) (fun i => l.length - i) 0 ⟨Nat.zero_le _, rfl⟩ (VS.of_le ?_) ?_
 · exact leD
 rintro i ⟨h1, h2⟩
 by_cases hi : i < l.length
 · rw [dh l i hi] at h2
   have F := nkG G l[i]
   by_cases hv : FQ l[i]
   · rw [if_pos hv] at h2
     rw [decide_eq_true hv] at F
     repeat' (first | ((with_reducible apply Fy); rfl; rfl; exact J6; exact F; exact BF; rfl; exact EI) | exact jA | refine AP ?_ | refine two ?_ ?_ | refine imp fun hc => ?_; try exact cx hc | refine all fun v_ => ?_)
     refine ⟨i + 1, ⟨hi, h2⟩, by omega, VS.of_le ?_⟩
     exact leD
   · rw [if_neg hv] at h2
     rw [decide_eq_false hv] at F
     repeat' (first | ((with_reducible apply Fy); rfl; rfl; exact J6; exact F; exact BF; rfl; exact EI) | exact jA | refine AP ?_ | refine two ?_ ?_ | refine imp fun hc => ?_; try exact cx hc | refine all fun v_ => ?_)
     refine A0 ?_
     ((with_reducible apply rq1); rfl; rfl)
     exact AA (by rw [h2])
 rw [YR l i jB] at h2
 repeat' (first | exact jA | refine AP ?_ | refine two ?_ ?_ | refine imp fun hc => ?_; try exact cx hc | refine all fun v_ => ?_)
 refine A0 ?_
 ((with_reducible apply rq1); rfl; rfl)
 exact AA (by rw [h2])
theorem Ol (G : List (Nat × List D)) (l : List Int) : ACr Tryz.prog G 182 [.d (AJ l), .val (.func (.func 183) #[] #[])] (.bool (decide (¬ ∀ k ∈ l, FQ k))) := by
 refine AK (ts := [4]) Tryz.f182.ntmps Tryz.func182 rfl rfl rfl (by simp [Tryz.ntmps182]) fun W I => ?_
 repeat' (first | refine ca Is (NI _ _) ?_ | exact jA | refine AP ?_ | refine two ?_ ?_ | refine imp fun hc => ?_; try exact cx hc | refine all fun v_ => ?_)
 refine A0 ?_
 ((with_reducible apply rq1); rfl; rfl)
 exact AA (congrArg AV.bool (decide_eq_decide.2 (V9 l 0)))
theorem eN (G : List (Nat × List D)) (q : Sl) (xs : List Int) (hb : xs.length < 4611686018427387904) : AC Tryz.prog G 143 [.val q.v] [AL q.v 3 1 AS xs] fun e h => ∃ _ : Unit, e = .ret (.tup []) ∧ h = [AL q.v 3 1 AS (Ba xs)] :=
 (dv G q xs hb).mono fun _ _ h => ⟨(), h.1, h.2⟩
theorem cQ (G : List (Nat × List D)) (s : Sto) : ACr Tryz.prog G 146 [stA s] (.int (P0 s)) := by
 refine AC.factI (f := BP) (xs := s.runs) (.agg (.there .here)) fun hlr => ?_
 refine AC.factN (g := BP) (f := AS) (xss := s.runs) 1 8 (fun _ => rfl) (.agg (.there .here)) fun hN => ?_
 refine AK (ts := [2]) Tryz.f146.ntmps Tryz.func146 rfl rfl rfl (by simp [Tryz.ntmps146]) fun W I => ?_
 by_cases h7 : ¬ s.loose.length ≤ 7
 · repeat' (first | refine ca Is (NI _ _) ?_ | exact jA | refine AF ?_ | refine two ?_ ?_ | refine AB fun c_ => ?_ | refine imp fun hc => ?_; try exact cx1 hc | refine all fun v_ => ?_)
   refine AI jE ?_
   ((with_reducible apply rq1); rfl; rfl)
   exact AA (by rw [Hv]; exact fun p => h7 p.loose)
 replace h7 := jY h7
 have hC := VM G s.loose
 repeat' (first | refine cae CN (hC) ?_ | exact jA | refine AF ?_ | refine two ?_ ?_ | refine AB fun c_ => ?_ | refine imp fun hc => ?_; try exact cx1 hc | refine all fun v_ => ?_)
 obtain ⟨q, rfl⟩ : ∃ x, x = v_ := ⟨v_, rfl⟩
 refine AG (X := Nat × Sl) (fun y => [(3, .val y.2.v), (18, .d (AX s.runs)), (19, .int s.runs.length), (20, .int y.1)]) (fun y => [AL y.2.v 3 1 AS (s.loose ++ (s.runs.take y.1).flatten)]) (fun y => Lx s y.1) (fun y => s.runs.length - y.1) (0, q) (Lx.start h7) (VS.take (by simp only [List.take_zero, List.flatten_nil, List.append_nil]; exact AH) ?_) ?_
 · exact leD
 clear q
 rintro ⟨i, q⟩ hI
 dsimp only at hI ⊢
 have hile := hI.le
 have hfew := hI.few
 have hal : (s.loose ++ (s.runs.take i).flatten).length = s.loose.length + (s.runs.take i).flatten.length := List.length_append
 by_cases hil : i < s.runs.length
 · have hlr2 := hN s.runs[i] (jb hil)
   have hno1 := fun p : EB s => p.no_run hil
   have hno2 := fun p : EB s => p.no_few hil
   have hnx := hI.next hil
   by_cases hz : s.runs[i].length = 0
   · repeat' (first | refine cae CN (hC) ?_ | exact jA | refine AF ?_ | refine two ?_ ?_ | refine AB fun c_ => ?_ | refine imp fun hc => ?_; try exact cx1 hc | refine all fun v_ => ?_)
     all_goals
      refine AI jE ?_
      ((with_reducible apply rq1); rfl; rfl)
      exact AA (by rw [Hv]; exact fun p => (hno1 p).1 (List.length_eq_zero_iff.1 hz))
   by_cases hb : ¬ s.loose.length + (s.runs.take i).flatten.length + s.runs[i].length ≤ 20000
   · repeat' (first | refine cae CN (hC) ?_ | exact jA | refine AF ?_ | refine two ?_ ?_ | refine AB fun c_ => ?_ | refine imp fun hc => ?_; try exact cx1 hc | refine all fun v_ => ?_)
     all_goals
      refine AI jE ?_
      ((with_reducible apply rq1); rfl; rfl)
      exact AA (by rw [Hv]; exact fun p => hb (hno2 p))
   replace hb := jY hb
   repeat' (first | refine cae CN (hC) ?_ | exact jA | refine AF ?_ | refine two ?_ ?_ | refine AB fun c_ => ?_ | refine imp fun hc => ?_; try exact cx1 hc | refine all fun v_ => ?_)
   refine AG (X := Nat) (fun k => [(3, .val q.v), (5, .d (AJ s.runs[i])), (18, .d (AX s.runs)), (19, .int s.runs.length), (20, .int i), (35, .d (AJ s.runs[i])), (36, .int s.runs[i].length), (37, .int k)]) (fun _ => [AL q.v 3 1 AS (s.loose ++ (s.runs.take i).flatten)]) (fun k => k ≤ s.runs[i].length ∧ ∀ (j : Nat) (h : j + 1 < s.runs[i].length), j + 1 < k → s.runs[i][j] < s.runs[i][j + 1]) (fun k => s.runs[i].length - k) 0 ⟨Nat.zero_le _, fun j h h2 => absurd h2 (Nat.not_lt_zero _)⟩ (VS.take AH ?_) ?_
   · exact leD
   rintro k ⟨hk, hup⟩
   by_cases hkl : k < s.runs[i].length
   · cases k with
     | zero =>
       repeat' (first | refine cae CN (hC) ?_ | exact jA | refine AF ?_ | refine two ?_ ?_ | refine AB fun c_ => ?_ | refine imp fun hc => ?_; try exact cx1 hc | refine all fun v_ => ?_)
       refine ⟨1, ⟨hkl, fun j h h2 => by omega⟩, by omega, VS.take AH ?_⟩
       exact leD
     | succ m =>
       have e : (((m + 1 : Nat) : Int) - 1).toNat = m := by omega
       by_cases c : s.runs[i][m + 1] ≤ s.runs[i][m]
       · have hcmp : s.runs[i][m + 1] ≤ s.runs[i][(((m + 1 : Nat) : Int) - 1).toNat]'jB := by simp only [e]; exact c
         repeat' (first | refine cae CN (hC) ?_ | exact jA | refine AF ?_ | refine two ?_ ?_ | refine AB fun c_ => ?_ | refine imp fun hc => ?_; try exact cx1 hc | refine all fun v_ => ?_)
         all_goals
          refine AI jE ?_
          ((with_reducible apply rq1); rfl; rfl)
          exact AA (by rw [Hv]; exact fun p => cY hkl c (hno1 p).2)
       · have hcmp : ¬ s.runs[i][m + 1] ≤ s.runs[i][(((m + 1 : Nat) : Int) - 1).toNat]'jB := by simp only [e]; exact c
         repeat' (first | refine cae CN (hC) ?_ | exact jA | refine AF ?_ | refine two ?_ ?_ | refine AB fun c_ => ?_ | refine imp fun hc => ?_; try exact cx1 hc | refine all fun v_ => ?_)
         refine ⟨m + 1 + 1, ⟨hkl, fun j h h2 => ?_⟩, by omega, VS.take AH ?_⟩
         · by_cases ej : j = m
           · subst ej; omega
           · exact hup j h jB
         · exact leD
   have hrise : s.runs[i].Pairwise (· < ·) := cF fun j h => hup j h jB
   have et : s.loose ++ (s.runs.take i).flatten ++ s.runs[i] = s.loose ++ (s.runs.take (i + 1)).flatten := by rw [DI _ _ hil, List.append_assoc]
   repeat' (first | refine cae CN (hC) ?_ | exact jA | refine AF ?_ | refine two ?_ ?_ | refine AB fun c_ => ?_ | refine imp fun hc => ?_; try exact cx1 hc | refine all fun v_ => ?_)
   refine ⟨(i + 1, v_), hnx (fun e => hz (by rw [e]; rfl)) hrise hb, jC, VS.take (by dsimp only; rw [← et]; exact AH) ?_⟩
   exact leD
 obtain rfl : i = s.runs.length := by omega
 rw [List.take_length] at hfew hal ⊢
 have hperm := keys_perm s
 have hkey : (∀ k ∈ s.loose ++ s.runs.flatten, FQ k) ↔ ∀ k ∈ Bw s, FQ k := ⟨fun h k hk => h k (hperm.mem_iff.2 hk), fun h k hk => h k (hperm.mem_iff.1 hk)⟩
 have hF := Ol G (s.loose ++ s.runs.flatten)
 have hS := eN G q (s.loose ++ s.runs.flatten) jB
 have hsl : (Ba (s.loose ++ s.runs.flatten)).length = s.loose.length + s.runs.flatten.length := by rw [Ff]; exact hal
 have hnd : (Bw s).Nodup ↔ (Ba (s.loose ++ s.runs.flatten)).Nodup := ((DX _).trans hperm).nodup_iff.symm
 have hup := Io (s.loose ++ s.runs.flatten)
 by_cases hk : ∀ k ∈ s.loose ++ s.runs.flatten, FQ k
 · rw [decide_eq_false (fun h => h hk)] at hF
   generalize Ba (s.loose ++ s.runs.flatten) = L at hS hsl hnd hup
   repeat' (first | refine IF rfl CC hF ⟨Dc (E := 3) 8 AW rfl (fun _ => rfl) jB, Ey _ _, trivial⟩ rfl ?_ | refine cag D7 (hS) ?_ | exact jA | refine AF ?_ | refine two ?_ ?_ | refine AB fun c_ => ?_ | refine imp fun hc => ?_; try exact cx1 hc | refine all fun v_ => ?_)
   refine AG (X := Nat) (fun k => [(3, .val q.v), (62, .val q.v), (63, .int L.length), (64, .int k)]) (fun _ => [AL q.v 3 1 AS L]) (fun k => k ≤ L.length ∧ ∀ (j : Nat) (h : j + 1 < L.length), j + 1 < k → L[j] ≠ L[j + 1]) (fun k => L.length - k) 0 ⟨Nat.zero_le _, fun j h h2 => absurd h2 (Nat.not_lt_zero _)⟩ (VS.take AH ?_) ?_
   · exact leD
   rintro k ⟨hkl0, hun⟩
   by_cases hkl : k < L.length
   · cases k with
     | zero =>
       repeat' (first | refine IF rfl CC hF ⟨Dc (E := 3) 8 AW rfl (fun _ => rfl) jB, Ey _ _, trivial⟩ rfl ?_ | refine cag D7 (hS) ?_ | exact jA | refine AF ?_ | refine two ?_ ?_ | refine AB fun c_ => ?_ | refine imp fun hc => ?_; try exact cx1 hc | refine all fun v_ => ?_)
       refine ⟨1, ⟨hkl, fun j h h2 => by omega⟩, by omega, VS.take AH ?_⟩
       exact leD
     | succ m =>
       have e : (((m + 1 : Nat) : Int) - 1).toNat = m := by omega
       by_cases c : L[m] = L[m + 1]
       · have hcmp : L[(((m + 1 : Nat) : Int) - 1).toNat]'jB = L[m + 1] := by simp only [e]; exact c
         repeat' (first | refine IF rfl CC hF ⟨Dc (E := 3) 8 AW rfl (fun _ => rfl) jB, Ey _ _, trivial⟩ rfl ?_ | refine cag D7 (hS) ?_ | exact jA | refine AF ?_ | refine two ?_ ?_ | refine AB fun c_ => ?_ | refine imp fun hc => ?_; try exact cx1 hc | refine all fun v_ => ?_)
         all_goals
          refine AI jE ?_
          ((with_reducible apply rq1); rfl; rfl)
          exact AA (by rw [Hv]; exact fun p => XC hkl c (hnd.1 p.nodup))
       · have hcmp : ¬ L[(((m + 1 : Nat) : Int) - 1).toNat]'jB = L[m + 1] := by simp only [e]; exact c
         repeat' (first | refine IF rfl CC hF ⟨Dc (E := 3) 8 AW rfl (fun _ => rfl) jB, Ey _ _, trivial⟩ rfl ?_ | refine cag D7 (hS) ?_ | exact jA | refine AF ?_ | refine two ?_ ?_ | refine AB fun c_ => ?_ | refine imp fun hc => ?_; try exact cx1 hc | refine all fun v_ => ?_)
         refine ⟨m + 1 + 1, ⟨hkl, fun j h h2 => ?_⟩, by omega, VS.take AH ?_⟩
         · by_cases ej : j = m
           · subst ej; exact c
           · exact hun j h jB
         · exact leD
   have hP : EB s := EB.of hI h7 (hkey.1 hk) (hnd.2 (Yq (bF hup fun j h => hun j h jB)))
   repeat' (first | refine IF rfl CC hF ⟨Dc (E := 3) 8 AW rfl (fun _ => rfl) jB, Ey _ _, trivial⟩ rfl ?_ | refine cag D7 (hS) ?_ | exact jA | refine AF ?_ | refine two ?_ ?_ | refine AB fun c_ => ?_ | refine imp fun hc => ?_; try exact cx1 hc | refine all fun v_ => ?_)
   refine AI jE ?_
   ((with_reducible apply rq1); rfl; rfl)
   exact AA (by rw [Q8 hP])
 · rw [decide_eq_true hk] at hF
   repeat' (first | refine IF rfl CC hF ⟨Dc (E := 3) 8 AW rfl (fun _ => rfl) jB, Ey _ _, trivial⟩ rfl ?_ | refine cag D7 (hS) ?_ | exact jA | refine AF ?_ | refine two ?_ ?_ | refine AB fun c_ => ?_ | refine imp fun hc => ?_; try exact cx1 hc | refine all fun v_ => ?_)
   refine AI jE ?_
   ((with_reducible apply rq1); rfl; rfl)
   exact AA (by rw [Hv]; exact fun p => hk (hkey.2 p.range))
end Go.Proofs.YtnlfhnbcdfdhgaaGreatDoor
