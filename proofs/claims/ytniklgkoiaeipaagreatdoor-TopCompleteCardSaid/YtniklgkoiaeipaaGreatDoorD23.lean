/- A bundle of this claim's own texts: N3 Q2 Q3 N7. -/
import Derived.Shelf.Sort.Plain
import Derived.Shelf.Slices.In.SortNone
import Derived.Shelf.Slices.CompactI
import Derived.Test.YtniklgkoiaeipaaGreatDoorProg
import Derived.Test.YtniklgkoiaeipaaGreatDoorD3
import Derived.Test.YtniklgkoiaeipaaGreatDoorD8
import Derived.Test.YtniklgkoiaeipaaGreatDoorD9
import Derived.Test.YtniklgkoiaeipaaGreatDoorD14
import Derived.Test.YtniklgkoiaeipaaGreatDoorD15
import Derived.Test.YtniklgkoiaeipaaGreatDoorD17
import Derived.Test.YtniklgkoiaeipaaGreatDoorD20
import Derived.Test.YtniklgkoiaeipaaGreatDoorD21
set_option linter.unusedVariables false
set_option linter.unusedSimpArgs false
set_option maxRecDepth 100000
set_option maxHeartbeats 4000000
namespace Go.Proofs.YtniklgkoiaeipaaGreatDoor
open Go Go.Av Go.Sp
theorem cal_CloneI : Cal Tryz.prog 177 := Cal.of Tryz.func177 (by kernel_rfl) (by kernel_rfl)
theorem cal_after : Cal Tryz.prog 130 := Cal.of Tryz.func130 (by kernel_rfl) (by kernel_rfl)
theorem CloneI (G : List (Nat × List D)) (xs : List Int) : AC Tryz.prog G 177 [.d (intsD xs)] [] fun r h => ∃ q : Sl, r = .ret (.val q.v) ∧ h = [rowE q.v 3 1 intC xs] := by
 refine AC_ofV (ts := [2]) Tryz.f177.ntmps Tryz.func177 rfl rfl rfl (by simp [Tryz.ntmps177]) fun W I => ?_
 refine jfact (t := 0) rfl fun hl => ?_
 repeat' (first
  | ((with_reducible apply jeq_nil); (focus rfl); (focus rfl); (focus rfl); (focus rfl))
  | ((with_reducible apply (jbuild0S intC)); (focus rfl); (focus (with_reducible exact ElC.h)); (focus rfl))
  | exact True.intro | refine stpA ?_ | refine two ?_ ?_
  | (refine imp fun hc => ?_) <;> try exact cx hc
  | refine all fun v_ => ?_)
 · subst hc
   refine retv (VS.nilrow 3 1) ?_
   ((with_reducible apply rq1); rfl; rfl)
   exact ⟨Sl.nil, rfl, rfl⟩
 · refine retv0 ?_
   ((with_reducible apply rq1); rfl; rfl)
   exact ⟨v_, rfl, rfl⟩
theorem armXN3_1 {p q : Prop} (hp : p) (h : p → q := by
 apply cmp; (focus (first
  | ((with_reducible apply call0); (focus rfl); (focus exact cal_Eval); (focus exact hG); (focus rfl))
  | ((with_reducible apply je_call0); (focus rfl); (focus (decide +kernel)); (focus rfl); (focus exact cal_Eval); (focus exact hG); (focus rfl))
  ))
 exact fun h => h) : q := h hp
theorem armXN3_2 {p q : Prop} (hp : p) (h : p → q := by
 apply cmp; (focus (first
  | ((with_reducible apply call0); (focus rfl); (focus exact cal_Eval); (focus exact hG); (focus rfl))
  | ((with_reducible apply je_call0); (focus rfl); (focus (decide +kernel)); (focus rfl); (focus exact cal_Eval); (focus exact hG); (focus rfl))
  | ((with_reducible apply callE1); (focus rfl); (focus exact cal_CloneI); (focus exact CloneI _ _); (focus rfl))
  | ((with_reducible apply je_callE); (focus rfl); (focus (decide +kernel)); (focus rfl); (focus exact cal_CloneI); (focus exact CloneI _ _); (focus rfl))
  ))
 exact fun h => h) : q := h hp
theorem armXN3_3 {p q : Prop} (hp : p) (h : p → q := by
 apply cmp; (focus (first
  | ((with_reducible apply call0); (focus rfl); (focus exact cal_Eval); (focus exact hE); (focus rfl))
  | ((with_reducible apply je_call0); (focus rfl); (focus (decide +kernel)); (focus rfl); (focus exact cal_Eval); (focus exact hE); (focus rfl))
  ))
 exact fun h => h) : q := h hp
theorem after (m : Md) (hm : modelF m = 0) (r : Ru) (hr : r ∈ m.rules) (vs : List Int) (g : InV m vs) : ACr Tryz.prog GP 130 [mdA m, ruA r, .d (intsD vs)] (.tup [.d (intsD ((afterF m r vs).getD [])), .bool (afterF m r vs).isSome]) := by
 have gr := goodR hm hr
 have hl6 := varsF_len (modelF_vars hm)
 have hln := g.len
 have hfew := gr.few
 have hG := Eval r.guard vs
 refine AC_ofV (ts := [6, 7]) Tryz.f130.ntmps Tryz.func130 rfl rfl rfl (by simp [Tryz.ntmps130]) fun W I => ?_
 have hb := evalF_bit (l := r.guard) (vs := vs) (by rw [hln]; exact gr.guard) (g.lim hm)
 by_cases h0 : evalF r.guard vs ≠ (1, 0)
 · rw [afterF_guard h0]
   rcases hb with hb | hb | hb
   · rw [hb] at hG
     dsimp only at hG
     repeat' (first
      | refine armXN3_1 ?_
      | exact True.intro | refine stpH ?_ | refine two ?_ ?_ | refine allc fun c_ => ?_
      | (refine imp fun hc => ?_) <;> try exact cx1 hc
      | refine all fun v_ => ?_)
     refine retv (VS.trans (VS.drop (List.nil_sublist _)) (vnil (t := 6) 1 8 rfl)) ?_
     ((with_reducible apply rq2); rfl; rfl; rfl)
     exact ret_eq rfl
   · rw [hb] at hG
     dsimp only at hG
     repeat' (first
      | refine armXN3_1 ?_
      | exact True.intro | refine stpH ?_ | refine two ?_ ?_ | refine allc fun c_ => ?_
      | (refine imp fun hc => ?_) <;> try exact cx1 hc
      | refine all fun v_ => ?_)
     refine retv (VS.trans (VS.drop (List.nil_sublist _)) (vnil (t := 6) 1 8 rfl)) ?_
     ((with_reducible apply rq2); rfl; rfl; rfl)
     exact ret_eq rfl
   · exact absurd hb h0
 replace h0 := Decidable.not_not.1 h0
 rw [h0] at hG
 dsimp only at hG
 repeat' (first
  | refine armXN3_2 ?_
  | exact True.intro | refine stpH ?_ | refine two ?_ ?_ | refine allc fun c_ => ?_
  | (refine imp fun hc => ?_) <;> try exact cx1 hc
  | refine all fun v_ => ?_)
 rename_i bm br _
 refine J_loopV (X := Nat) (fun i => [(2, .d (intsD vs)), (3, .val (.pointer (some ⟨bm, 0, none⟩))), (10, .val v_.v), (32, .d (setsD r.sets)), (33, .int r.sets.length), (34, .int i)]) (fun i => [rowE v_.v 3 1 intC (setAll vs (r.sets.take i) vs), .cells bm 25 [.d (varsD m.vars), .d (rulesD m.rules)]]) (fun i => i ≤ r.sets.length ∧ ∀ s ∈ r.sets.take i, setOk m vs s) (fun i => r.sets.length - i) 0 ⟨Nat.zero_le _, fun s hs => (by cases hs)⟩ (VS.take (by exact takedD) ?_) ?_
 · exact leD
 rintro i ⟨hi, hok⟩
 have hsl := setAll_length vs (r.sets.take i) vs
 by_cases hil : i < r.sets.length
 · have hs := List.getElem_mem hil
   obtain ⟨a1, a2, a3⟩ := gr.sets _ hs
   have a4 : r.sets[i].var.toNat < m.vars.length := by omega
   have hE := Eval r.sets[i].val vs
   have hx := fun n e (he : evalF r.sets[i].val vs = (n, e)) => setOk_iff (m := m) (vs := vs) (s := r.sets[i]) (n := n) (e := e) he (by omega)
   have hn := setAll_succ vs r.sets i hil
   generalize evalF r.sets[i].val vs = p at hE hx hn
   obtain ⟨n, e⟩ := p
   have hx := hx n e rfl
   dsimp only at hE hn
   by_cases hgood : setOk m vs r.sets[i]
   · have hx := hx.1 hgood
     obtain ⟨rfl, x1, x2⟩ := hx
     repeat' (first
      | refine armXN3_3 ?_
      | exact True.intro | refine stpH ?_ | refine two ?_ ?_ | refine allc fun c_ => ?_
      | (refine imp fun hc => ?_) <;> try exact cx1 hc
      | refine all fun v_ => ?_)
     refine ⟨i + 1, ⟨by omega, fun s h => ?_⟩, by omega, ?_⟩
     · rw [List.take_succ_eq_append_getElem hil] at h
       rcases List.mem_append.1 h with h | h
       · exact hok s h
       · rw [List.mem_singleton.1 h]; exact hgood
     · rw [hn]
       refine VS.take (by exact takedD) ?_
       exact leD
   · rw [afterF_set hs hgood]
     by_cases x0 : e ≠ 0
     · repeat' (first
        | refine armXN3_3 ?_
        | exact True.intro | refine stpH ?_ | refine two ?_ ?_ | refine allc fun c_ => ?_
        | (refine imp fun hc => ?_) <;> try exact cx1 hc
        | refine all fun v_ => ?_)
       refine retv (VS.trans (VS.drop (List.nil_sublist _)) (vnil (t := 6) 1 8 rfl)) ?_
       ((with_reducible apply rq2); rfl; rfl; rfl)
       exact ret_eq rfl
     replace x0 := Decidable.not_not.1 x0
     subst x0
     by_cases x1 : n < m.vars[r.sets[i].var.toNat].low
     · repeat' (first
        | refine armXN3_3 ?_
        | exact True.intro | refine stpH ?_ | refine two ?_ ?_ | refine allc fun c_ => ?_
        | (refine imp fun hc => ?_) <;> try exact cx1 hc
        | refine all fun v_ => ?_)
       refine retv (VS.trans (VS.drop (List.nil_sublist _)) (vnil (t := 6) 1 8 rfl)) ?_
       ((with_reducible apply rq2); rfl; rfl; rfl)
       exact ret_eq rfl
     by_cases x2 : m.vars[r.sets[i].var.toNat].high < n
     · repeat' (first
        | refine armXN3_3 ?_
        | exact True.intro | refine stpH ?_ | refine two ?_ ?_ | refine allc fun c_ => ?_
        | (refine imp fun hc => ?_) <;> try exact cx1 hc
        | refine all fun v_ => ?_)
       refine retv (VS.trans (VS.drop (List.nil_sublist _)) (vnil (t := 6) 1 8 rfl)) ?_
       ((with_reducible apply rq2); rfl; rfl; rfl)
       exact ret_eq rfl
     exact absurd (hx.2 ⟨rfl, by omega, by omega⟩) hgood
 obtain rfl : i = r.sets.length := by omega
 rw [List.take_length] at hok hsl ⊢
 rw [afterF_some h0 hok]
 repeat' (first
  | exact True.intro | refine stpH ?_ | refine two ?_ ?_ | refine allc fun c_ => ?_
  | (refine imp fun hc => ?_) <;> try exact cx1 hc
  | refine all fun v_ => ?_)
 refine retv (VS.trans (vfreeze (t := 6) (eb := 8) rfl rfl (fun x => rfl) (by omega)) (VS.drop (List.nil_sublist _))) ?_
 ((with_reducible apply rq2); rfl; rfl; rfl)
 exact ret_eq rfl
end Go.Proofs.YtniklgkoiaeipaaGreatDoor
namespace Go.Proofs
open Go.Shelf
def Tryz.lays189_ren : Go.Shelf.Ren := ⟨fun | 189 => 71 | 125 => 123 | 257 => 122 | 128 => 170 | 129 => 171 | 294 => 161 | 295 => 162 | 296 => 163 | 297 => 164 | 298 => 165 | 299 => 166 | 216 => 167 | 300 => 168 | 301 => 169 | 328 => 196 | 329 => 197 | 330 => 198 | 331 => 199 | 332 => 200 | 215 => 201 | 343 => 212 | n => n, fun | 28 => 33 | 3 => 3 | 46 => 172 | 0 => 0 | 51 => 221 | 53 => 223 | 4 => 4 | 183 => 214 | 182 => 213 | 131 => 99 | 5 => 5 | 9 => 9 | 218 => 238 | 222 => 242 | 228 => 251 | 229 => 252 | n => n, fun | n => n⟩
theorem Tryz.lays189 : Go.Proofs.Lays.n189 Tryz.prog Tryz.lays189_ren := {
 mixed := by kernel_rfl
 f125 := Tryz.func123.trans (congrArg some (by kernel_rfl))
 f128 := Tryz.func170.trans (congrArg some (by kernel_rfl))
 f129 := Tryz.func171.trans (congrArg some (by kernel_rfl))
 f189 := Tryz.func71.trans (congrArg some (by kernel_rfl))
 f215 := Tryz.func201.trans (congrArg some (by kernel_rfl))
 f216 := Tryz.func167.trans (congrArg some (by kernel_rfl))
 f257 := Tryz.func122.trans (congrArg some (by kernel_rfl))
 f294 := Tryz.func161.trans (congrArg some (by kernel_rfl))
 f295 := Tryz.func162.trans (congrArg some (by kernel_rfl))
 f296 := Tryz.func163.trans (congrArg some (by kernel_rfl))
 f297 := Tryz.func164.trans (congrArg some (by kernel_rfl))
 f298 := Tryz.func165.trans (congrArg some (by kernel_rfl))
 f299 := Tryz.func166.trans (congrArg some (by kernel_rfl))
 f300 := Tryz.func168.trans (congrArg some (by kernel_rfl))
 f301 := Tryz.func169.trans (congrArg some (by kernel_rfl))
 f328 := Tryz.func196.trans (congrArg some (by kernel_rfl))
 f329 := Tryz.func197.trans (congrArg some (by kernel_rfl))
 f330 := Tryz.func198.trans (congrArg some (by kernel_rfl))
 f331 := Tryz.func199.trans (congrArg some (by kernel_rfl))
 f332 := Tryz.func200.trans (congrArg some (by kernel_rfl))
 f343 := Tryz.func212.trans (congrArg some (by kernel_rfl))
 t0 := Tryz.underlying0
 a0 := Tryz.isAgg0
 z0 := Tryz.sizeOf0
 v0 := Tryz.zeroValue0
 t3 := Tryz.underlying3
 a3 := Tryz.isAgg3
 z3 := Tryz.sizeOf3
 v3 := Tryz.zeroValue3
 t4 := Tryz.underlying4
 a4 := Tryz.isAgg4
 z4 := Tryz.sizeOf4
 v4 := Tryz.zeroValue4
 t5 := Tryz.underlying5
 a5 := Tryz.isAgg5
 z5 := Tryz.sizeOf5
 v5 := Tryz.zeroValue5
 t9 := Tryz.underlying9
 a9 := Tryz.isAgg9
 z9 := Tryz.sizeOf9
 v9 := Tryz.zeroValue9
 t28 := Tryz.underlying33
 a28 := Tryz.isAgg33
 z28 := Tryz.sizeOf33
 v28 := Tryz.zeroValue33
 t46 := Tryz.underlying172
 a46 := Tryz.isAgg172
 z46 := Tryz.sizeOf172
 v46 := Tryz.zeroValue172
 t51 := Tryz.underlying221
 a51 := Tryz.isAgg221
 z51 := Tryz.sizeOf221
 v51 := Tryz.zeroValue221
 t53 := Tryz.underlying223
 a53 := Tryz.isAgg223
 z53 := Tryz.sizeOf223
 v53 := Tryz.zeroValue223
 t131 := Tryz.underlying99
 a131 := Tryz.isAgg99
 z131 := Tryz.sizeOf99
 v131 := Tryz.zeroValue99
 t182 := Tryz.underlying213
 a182 := Tryz.isAgg213
 z182 := Tryz.sizeOf213
 v182 := Tryz.zeroValue213
 t183 := Tryz.underlying214
 a183 := Tryz.isAgg214
 z183 := Tryz.sizeOf214
 v183 := Tryz.zeroValue214
 t218 := Tryz.underlying238
 a218 := Tryz.isAgg238
 z218 := Tryz.sizeOf238
 v218 := Tryz.zeroValue238
 t222 := Tryz.underlying242
 a222 := Tryz.isAgg242
 z222 := Tryz.sizeOf242
 v222 := Tryz.zeroValue242
 t228 := Tryz.underlying251
 a228 := Tryz.isAgg251
 z228 := Tryz.sizeOf251
 v228 := Tryz.zeroValue251
 t229 := Tryz.underlying252
 a229 := Tryz.isAgg252
 z229 := Tryz.sizeOf252
 v229 := Tryz.zeroValue252 }
def Tryz.lays20_ren : Go.Shelf.Ren := ⟨fun | 20 => 131 | n => n, fun | 22 => 33 | 3 => 3 | 4 => 4 | 0 => 0 | n => n, fun | n => n⟩
theorem Tryz.lays20 : Go.Proofs.Lays2.n20 Tryz.prog Tryz.lays20_ren := {
 mixed := by kernel_rfl
 f20 := Tryz.func131.trans (congrArg some (by kernel_rfl))
 t0 := Tryz.underlying0
 a0 := Tryz.isAgg0
 z0 := Tryz.sizeOf0
 v0 := Tryz.zeroValue0
 t3 := Tryz.underlying3
 a3 := Tryz.isAgg3
 z3 := Tryz.sizeOf3
 v3 := Tryz.zeroValue3
 t4 := Tryz.underlying4
 a4 := Tryz.isAgg4
 z4 := Tryz.sizeOf4
 v4 := Tryz.zeroValue4
 t22 := Tryz.underlying33
 a22 := Tryz.isAgg33
 z22 := Tryz.sizeOf33
 v22 := Tryz.zeroValue33
 i3 := by kernel_rfl }
end Go.Proofs
namespace Go.Proofs.YtniklgkoiaeipaaGreatDoor
open Go Go.Av Go.Sp
theorem cal_SortI : Cal Tryz.prog 71 := Cal.of Tryz.func71 (by kernel_rfl) (by kernel_rfl)
theorem cal_CompactI : Cal Tryz.prog 131 := Cal.of Tryz.func131 (by kernel_rfl) (by kernel_rfl)
theorem cal_IndexI : Cal Tryz.prog 129 := Cal.of Tryz.func129 (by kernel_rfl) (by kernel_rfl)
theorem cal_ContainsI : Cal Tryz.prog 79 := Cal.of Tryz.func79 (by kernel_rfl) (by kernel_rfl)
theorem SortI (G : List (Nat × List D)) (q : Sl) (xs : List Int) (hb : xs.length < 4611686018427387904) : AC Tryz.prog G 71 [.val q.v] [rowE q.v 3 1 intC xs] fun e h => e = .ret (.tup []) ∧ h = [rowE q.v 3 1 intC (sortI xs)] :=
 AC_sortI q xs hb (fun blk cap zs w h1 h2 h3 => Any.slices_Sort_int Tryz.lays189 blk 0 cap zs w h1 h2 h3) fun w => Any.slices_Sort_int_none Tryz.lays189 none 0 w
theorem CompactI (G : List (Nat × List D)) (q : Sl) (xs : List Int) (hb : xs.length ≤ 9223372036854775807) (hk : (Lib.compact xs).length ≤ xs.length) : AC Tryz.prog G 131 [.val q.v] [rowE q.v 3 1 intC xs] fun e h => ∃ q' : Sl, e = .ret (.val q'.v) ∧ h = [rowE q'.v 3 1 intC (Lib.compact xs)] :=
 AC_compactI q xs hb hk (fun blk cap zs w h1 h2 h3 => Any.slices_Compact_int Tryz.lays20 blk 0 cap zs w h1 h2 h3) fun w => Any.slices_Compact_int_empty Tryz.lays20 none 0 w
def indexZ (v : Int) : List Int → Nat → Int
 | [], _ => -1
 | x :: l, i => if v = x then i else indexZ v l (i + 1)
theorem indexZ_at (v : Int) (l : List Int) (i : Nat) (h : i < l.length) : indexZ v (l.drop i) i = if v = l[i] then (i : Int) else indexZ v (l.drop (i + 1)) (i + 1) := by
 rw [List.drop_eq_getElem_cons h, indexZ]
theorem indexZ_end (v : Int) (l : List Int) (i : Nat) (h : l.length ≤ i) : indexZ v (l.drop i) i = -1 := by
 rw [List.drop_of_length_le h, indexZ]
theorem indexZ_in (v : Int) : ∀ (l : List Int) (i : Nat), 0 ≤ indexZ v l i ↔ v ∈ l
 | [], i => by simp [indexZ]
 | x :: l, i => by
   rw [indexZ, List.mem_cons]
   by_cases h : v = x
   · rw [if_pos h]; exact ⟨fun _ => .inl h, fun _ => by omega⟩
   · rw [if_neg h, indexZ_in v l (i + 1)]; exact ⟨.inr, fun k => k.resolve_left h⟩
theorem IndexI (G : List (Nat × List D)) (l : List Int) (v : Int) : ACr Tryz.prog G 129 [.d (intsD l), .int v] (.int (indexZ v l 0)) := by
 refine AC_ofV (ts := [4]) Tryz.f129.ntmps Tryz.func129 rfl rfl rfl (by simp [Tryz.ntmps129]) fun W I => ?_
 refine jfact (t := 0) rfl fun hl => ?_
 repeat' (first
  | exact True.intro | refine stpH ?_ | refine two ?_ ?_ | refine allc fun c_ => ?_
  | (refine imp fun hc => ?_) <;> try exact cx1 hc
  | refine all fun v_ => ?_)
 refine J_loopV (X := Nat) (fun i => [(0, .d (intsD l)), (1, .int v), (7, .int l.length), (8, .int i)]) (fun _ => []) (fun i => i ≤ l.length ∧ indexZ v l 0 = indexZ v (l.drop i) i) (fun i => l.length - i) 0 ⟨Nat.zero_le _, rfl⟩ (VS.of_le ?_) ?_
 · exact leD
 rintro i ⟨h1, h2⟩
 by_cases hi : i < l.length
 · rw [indexZ_at v l i hi] at h2
   by_cases hv : v = l[i]
   · rw [if_pos hv] at h2
     repeat' (first
      | exact True.intro | refine stpH ?_ | refine two ?_ ?_ | refine allc fun c_ => ?_
      | (refine imp fun hc => ?_) <;> try exact cx1 hc
      | refine all fun v_ => ?_)
     refine retv0 ?_
     ((with_reducible apply rq1); rfl; rfl)
     exact ret_eq (by rw [h2])
   · rw [if_neg hv] at h2
     repeat' (first
      | exact True.intro | refine stpH ?_ | refine two ?_ ?_ | refine allc fun c_ => ?_
      | (refine imp fun hc => ?_) <;> try exact cx1 hc
      | refine all fun v_ => ?_)
     refine ⟨i + 1, ⟨by omega, h2⟩, by omega, VS.of_le ?_⟩
     exact leD
 rw [indexZ_end v l i (by omega)] at h2
 repeat' (first
  | exact True.intro | refine stpH ?_ | refine two ?_ ?_ | refine allc fun c_ => ?_
  | (refine imp fun hc => ?_) <;> try exact cx1 hc
  | refine all fun v_ => ?_)
 refine retv0 ?_
 ((with_reducible apply rq1); rfl; rfl)
 exact ret_eq (by rw [h2])
theorem armXQ3_1 {p q : Prop} (hp : p) (h : p → q := by
 apply cmp; (focus (first
  | ((with_reducible apply call0); (focus rfl); (focus exact cal_IndexI); (focus exact IndexI _ _ _); (focus rfl))
  | ((with_reducible apply je_call0); (focus rfl); (focus (decide +kernel)); (focus rfl); (focus exact cal_IndexI); (focus exact IndexI _ _ _); (focus rfl))
  ))
 exact fun h => h) : q := h hp
theorem ContainsI (G : List (Nat × List D)) (l : List Int) (v : Int) : ACr Tryz.prog G 79 [.d (intsD l), .int v] (.bool (decide (v ∈ l))) := by
 refine AC_ofV (ts := [4]) Tryz.f79.ntmps Tryz.func79 rfl rfl rfl (by simp [Tryz.ntmps79]) fun W I => ?_
 repeat' (first
  | refine armXQ3_1 ?_
  | exact True.intro | refine stpH ?_ | refine two ?_ ?_ | refine allc fun c_ => ?_
  | (refine imp fun hc => ?_) <;> try exact cx1 hc
  | refine all fun v_ => ?_)
 refine retv0 ?_
 ((with_reducible apply rq1); rfl; rfl)
 refine ret_eq (congrArg AV.bool ?_)
 exact decide_eq_decide.2 (indexZ_in v l 0)
theorem cal_next : Cal Tryz.prog 85 := Cal.of Tryz.func85 (by kernel_rfl) (by kernel_rfl)
theorem cal_Next : Cal Tryz.prog 38 := Cal.of Tryz.func38 (by kernel_rfl) (by kernel_rfl)
theorem SortU (G : List (Nat × List D)) (q : Sl) (xs : List Int) (hb : xs.length < 4611686018427387904) : AC Tryz.prog G 71 [.val q.v] [rowE q.v 3 1 intC xs] fun e h => ∃ _ : Unit, e = .ret (.tup []) ∧ h = [rowE q.v 3 1 intC (sortI xs)] :=
 (SortI G q xs hb).mono fun _ _ h => ⟨(), h.1, h.2⟩
theorem CompactU (G : List (Nat × List D)) (q : Sl) (xs : List Int) (hb : xs.length ≤ 1000000) : AC Tryz.prog G 131 [.val q.v] [rowE q.v 3 1 intC xs] fun e h => ∃ q' : Sl, e = .ret (.val q'.v) ∧ h = [rowE q'.v 3 1 intC (Lib.compact xs)] :=
 CompactI G q xs (by omega) (compact_len xs _ (Nat.le_refl _))
theorem armXN7_1 {p q : Prop} (hp : p) (h : p → q := by
 apply cmp; (focus (first
  | ((with_reducible apply call0); (focus rfl); (focus exact cal_after); (focus exact hA); (focus rfl))
  | ((with_reducible apply je_call0); (focus rfl); (focus (decide +kernel)); (focus rfl); (focus exact cal_after); (focus exact hA); (focus rfl))
  ))
 exact fun h => h) : q := h hp
theorem armXN7_2 {p q : Prop} (hp : p) (h : p → q := by
 apply cmp; (focus (first
  | ((with_reducible apply call0); (focus rfl); (focus exact cal_after); (focus exact hA); (focus rfl))
  | ((with_reducible apply je_call0); (focus rfl); (focus (decide +kernel)); (focus rfl); (focus exact cal_after); (focus exact hA); (focus rfl))
  | ((with_reducible apply call0); (focus rfl); (focus exact cal_Code); (focus exact Code _ _); (focus rfl))
  | ((with_reducible apply je_call0); (focus rfl); (focus (decide +kernel)); (focus rfl); (focus exact cal_Code); (focus exact Code _ _); (focus rfl))
  ))
 exact fun h => h) : q := h hp
theorem next (m : Md) (hm : modelF m = 0) (vs : List Int) (g : InV m vs) : AC Tryz.prog GP 85 [mdA m, .d (intsD vs)] [] fun e h => ∃ q : Sl, e = .ret (.val q.v) ∧ h = [rowE q.v 3 1 intC (Lib.compact (sortI (codesL m vs m.rules)))] := by
 have h12 := modelF_few hm
 refine AC_ofV (ts := [4]) Tryz.f85.ntmps Tryz.func85 rfl rfl rfl (by simp [Tryz.ntmps85]) fun W I => ?_
 repeat' (first
  | exact True.intro | refine stpH ?_ | refine two ?_ ?_ | refine allc fun c_ => ?_
  | (refine imp fun hc => ?_) <;> try exact cx1 hc
  | refine all fun v_ => ?_)
 obtain ⟨bm, rfl⟩ : ∃ x, x = v_ := ⟨v_, rfl⟩
 refine jrow (E := 3) (sz := 1) intC ?_
 refine J_loopV (X := Nat × Sl) (fun y => [(1, .d (intsD vs)), (2, .val (.pointer (some ⟨bm, 0, none⟩))), (5, .val y.2.v), (13, .d (rulesD m.rules)), (14, .int m.rules.length), (15, .int y.1)]) (fun y => [rowE y.2.v 3 1 intC (codesL m vs (m.rules.take y.1)), .cells bm 25 [.d (varsD m.vars), .d (rulesD m.rules)]]) (fun y => y.1 ≤ m.rules.length) (fun y => m.rules.length - y.1) (0, Sl.nil) (Nat.zero_le _) (VS.take (by exact takedD) ?_) ?_
 · exact leD
 rintro ⟨i, q⟩ hi
 dsimp only at hi ⊢
 have hln := codesL_len m vs (m.rules.take i)
 rw [List.length_take] at hln
 by_cases hil : i < m.rules.length
 · have hr := List.getElem_mem hil
   have hA := after m hm _ hr vs g
   cases ho : afterF m m.rules[i] vs with
   | none =>
     have hs := codesL_none hil ho
     rw [ho] at hA
     simp only [Option.getD_none, Option.isSome_none] at hA
     repeat' (first
      | refine armXN7_1 ?_
      | exact True.intro | refine stpH ?_ | refine two ?_ ?_ | refine allc fun c_ => ?_
      | (refine imp fun hc => ?_) <;> try exact cx1 hc
      | refine all fun v_ => ?_)
     refine ⟨(i + 1, q), by dsimp only; omega, by dsimp only; omega, VS.take (by dsimp only; rw [hs]; exact takedD) ?_⟩
     exact leD
   | some out =>
     have hs := codesL_some hil ho
     rw [ho] at hA
     simp only [Option.getD_some, Option.isSome_some] at hA
     repeat' (first
      | refine armXN7_2 ?_
      | exact True.intro | refine stpH ?_ | refine two ?_ ?_ | refine allc fun c_ => ?_
      | (refine imp fun hc => ?_) <;> try exact cx1 hc
      | refine all fun v_ => ?_)
     refine ⟨(i + 1, v_), by dsimp only; omega, by dsimp only; omega, VS.take (by dsimp only; rw [hs]; exact takedD) ?_⟩
     exact leD
 obtain rfl : i = m.rules.length := by omega
 rw [List.take_length] at hln ⊢
 generalize codesL m vs m.rules = cs at hln ⊢
 have hsl := sortI_length cs
 repeat' (first
  | ((with_reducible apply callG); (focus rfl); (focus exact cal_SortI); (focus exact SortU GP q cs (by omega)); (focus exact takeD); (focus rfl); (focus exact appD))
  | ((with_reducible apply callG); (focus rfl); (focus exact cal_CompactI); (focus exact CompactU GP q (sortI cs) (by omega)); (focus exact takeD); (focus rfl); (focus exact appD))
  | exact True.intro | refine stpH ?_ | refine two ?_ ?_ | refine allc fun c_ => ?_
  | (refine imp fun hc => ?_) <;> try exact cx1 hc
  | refine all fun v_ => ?_)
 refine retv (VS.drop (h' := [rowE v_.v 3 1 intC (Lib.compact (sortI cs))]) (by exact sublD)) ?_
 ((with_reducible apply rq1); rfl; rfl)
 exact ⟨v_, rfl, rfl⟩
theorem armXN7_3 {p q : Prop} (hp : p) (h : p → q := by
 apply cmp; (focus (first
  | ((with_reducible apply call0); (focus rfl); (focus exact cal_Values); (focus exact hV); (focus rfl))
  | ((with_reducible apply je_call0); (focus rfl); (focus (decide +kernel)); (focus rfl); (focus exact cal_Values); (focus exact hV); (focus rfl))
  ))
 exact fun h => h) : q := h hp
theorem armXN7_4 {p q : Prop} (hp : p) (h : p → q := by
 apply cmp; (focus (first
  | ((with_reducible apply call0); (focus rfl); (focus exact cal_Values); (focus exact hV); (focus rfl))
  | ((with_reducible apply je_call0); (focus rfl); (focus (decide +kernel)); (focus rfl); (focus exact cal_Values); (focus exact hV); (focus rfl))
  | ((with_reducible apply callE1); (focus rfl); (focus exact cal_next); (focus exact hN); (focus rfl))
  | ((with_reducible apply je_callE); (focus rfl); (focus (decide +kernel)); (focus rfl); (focus exact cal_next); (focus exact hN); (focus rfl))
  ))
 exact fun h => h) : q := h hp
theorem Next (m : Md) (code : Int) : ACr Tryz.prog GP 38 [mdA m, .int code] (.tup [.d (intsD (nextF m code).1), .int (nextF m code).2]) := by
 have hV := Values m code
 refine AC_ofV (ts := [4, 5]) Tryz.f38.ntmps Tryz.func38 rfl rfl rfl (by simp [Tryz.ntmps38]) fun W I => ?_
 by_cases h1 : (valsF m code).2 ≠ 0
 · rw [nextF_err h1]
   repeat' (first
    | refine armXN7_3 ?_
    | exact True.intro | refine stpH ?_ | refine two ?_ ?_ | refine allc fun c_ => ?_
    | (refine imp fun hc => ?_) <;> try exact cx1 hc
    | refine all fun v_ => ?_)
   refine retv (VS.trans (VS.drop (List.nil_sublist _)) (vnil (t := 4) 1 8 rfl)) ?_
   ((with_reducible apply rq2); rfl; rfl; rfl)
   exact ret_eq rfl
 rw [nextF_ok (Decidable.not_not.1 h1)]
 obtain ⟨hm, c0, c1, hF⟩ := valsF_ok (Decidable.not_not.1 h1)
 have g := InV.vals hm c0 c1
 rw [hF] at hV
 dsimp only at hV
 clear h1
 have hN := next m hm _ g
 have hr := codesL_range hm g
 obtain ⟨n, hn, n1, n2⟩ := states_nat hm
 rw [hn] at hr ⊢
 rw [compact_sort n _ hr] at hN
 generalize codesL m (valsT m.vars code) m.rules = cs at hN hr ⊢
 have hul := upTo_len n cs
 rw [Int.toNat_natCast]
 by_cases hcs : cs = []
 · subst hcs
   rw [upTo_nil] at hN hul
   rw [if_pos rfl]
   repeat' (first
    | refine armXN7_4 ?_
    | exact True.intro | refine stpH ?_ | refine two ?_ ?_ | refine allc fun c_ => ?_
    | (refine imp fun hc => ?_) <;> try exact cx1 hc
    | refine all fun v_ => ?_)
   refine retv (VS.trans (vfreeze (t := 4) (eb := 8) rfl rfl (fun x => rfl) (by simp)) (VS.drop (List.nil_sublist _))) ?_
   ((with_reducible apply rq2); rfl; rfl; rfl)
   exact ret_eq rfl
 · rw [if_neg hcs]
   have hu0 : 0 < (upTo n cs).length := by
    obtain ⟨x, hx⟩ := List.exists_mem_of_ne_nil _ hcs
    exact List.length_pos_of_mem ((mem_upTo hr x).2 hx)
   repeat' (first
    | refine armXN7_4 ?_
    | exact True.intro | refine stpH ?_ | refine two ?_ ?_ | refine allc fun c_ => ?_
    | (refine imp fun hc => ?_) <;> try exact cx1 hc
    | refine all fun v_ => ?_)
   refine retv (VS.trans (vfreeze (t := 4) (eb := 8) rfl rfl (fun x => rfl) (by omega)) (VS.drop (List.nil_sublist _))) ?_
   ((with_reducible apply rq2); rfl; rfl; rfl)
   exact ret_eq rfl
end Go.Proofs.YtniklgkoiaeipaaGreatDoor
