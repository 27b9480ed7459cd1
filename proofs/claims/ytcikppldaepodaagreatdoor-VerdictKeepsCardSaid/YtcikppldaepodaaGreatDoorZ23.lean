/- A bundle of this claim's own texts: N3 Q2 Q3 N7. -/
import Derived.Shelf.Sort.Plain
import Derived.Shelf.Slices.In.SortNone
import Derived.Shelf.Slices.CompactI
import Derived.Test.YtcikppldaepodaaGreatDoorProg
import Derived.Test.YtcikppldaepodaaGreatDoorZ2
import Derived.Test.YtcikppldaepodaaGreatDoorZ12
import Derived.Test.YtcikppldaepodaaGreatDoorZ14
import Derived.Test.YtcikppldaepodaaGreatDoorZ19
import Derived.Test.YtcikppldaepodaaGreatDoorZ21
import Derived.Test.YtcikppldaepodaaGreatDoorZ22
namespace Go.Proofs.YtcikppldaepodaaGreatDoor
open Go Go.Av Go.Sp
set_option linter.unusedVariables false
set_option linter.unusedSimpArgs false
set_option maxRecDepth 100000
set_option maxHeartbeats 4000000
theorem cal_CloneI : Cal Tryz.prog 243 := Cal.of Tryz.func243 (by kernel_rfl) (by kernel_rfl)
theorem cal_after : Cal Tryz.prog 195 := Cal.of Tryz.func195 (by kernel_rfl) (by kernel_rfl)
theorem cal_AfterRule : Cal Tryz.prog 114 := Cal.of Tryz.func114 (by kernel_rfl) (by kernel_rfl)
theorem CloneI (G : List (Nat × List D)) (xs : List Int) : AC Tryz.prog G 243 [.d (intsD xs)] [] fun r h => ∃ q : Sl, r = .ret (.val q.v) ∧ h = [rowE q.v 3 1 intC xs] := by
  refine AC_ofV (ts := [2]) Tryz.f243.ntmps Tryz.func243 rfl rfl rfl (by simp [Tryz.ntmps243]) fun W I => ?_
  refine jfact (t := 0) rfl fun hl => ?_
  all_goals haveI fA_ : FlagA := ⟨⟩
  repeat' (first
    | ((with_reducible apply jeq_nil); (focus rfl); (focus rfl); (focus rfl); (focus rfl))
    | ((with_reducible apply (jbuild0S intC)); (focus rfl); (focus (with_reducible exact ElC.h)); (focus rfl))
    | exact True.intro
    | refine stp ?_
    | refine two ?_ ?_
    | (refine imp fun hc => ?_) <;> try (first | contradiction | (exfalso; omega))
    | refine all fun v_ => ?_)
  all_goals clear fA_
  · subst hc
    refine retv (VS.nilrow 3 1) ?_
    ((with_reducible apply rq1); rfl; rfl)
    exact ⟨Sl.nil, rfl, rfl⟩
  · refine retv0 ?_
    ((with_reducible apply rq1); rfl; rfl)
    exact ⟨v_, rfl, rfl⟩
theorem after (m : Md) (hm : modelF m = 0) (r : Ru) (hr : r ∈ m.rules) (vs : List Int) (g : InV m vs) : ACr Tryz.prog GP 195 [mdA m, ruA r, .d (intsD vs)] (.tup [.d (intsD ((afterF m r vs).getD [])), .bool (afterF m r vs).isSome]) := by
  have gr := goodR hm hr
  have hl6 := varsF_len (modelF_vars hm)
  have hln := g.len
  have hfew := gr.few
  have hG := Eval r.guard vs
  refine AC_ofV (ts := [6, 7]) Tryz.f195.ntmps Tryz.func195 rfl rfl rfl (by simp [Tryz.ntmps195]) fun W I => ?_
  have hb := evalF_bit (l := r.guard) (vs := vs) (by rw [hln]; exact gr.guard) (g.lim hm)
  by_cases h0 : evalF r.guard vs ≠ (1, 0)
  · rw [afterF_guard h0]
    rcases hb with hb | hb | hb
    · rw [hb] at hG
      dsimp only at hG
      all_goals haveI fA_ : FlagA := ⟨⟩
      all_goals haveI fH_ : FlagH := ⟨⟩
      repeat' (first
        | ((with_reducible apply call0); (focus rfl); (focus exact cal_Eval); (focus exact hG); (focus rfl))
        | ((with_reducible apply je_call0); (focus rfl); (focus (decide +kernel)); (focus rfl); (focus exact cal_Eval); (focus exact hG); (focus rfl))
        | exact True.intro
        | refine stp ?_
        | refine two ?_ ?_
        | refine allc fun c_ => ?_
        | (refine imp fun hc => ?_) <;> try (first | contradiction | (exfalso; omega) | (exfalso; exact absurd (of_dT hc) (by assumption)) | (exfalso; exact of_dF hc (by assumption)))
        | refine all fun v_ => ?_)
      all_goals clear fA_ fH_
      refine retv (VS.trans (VS.drop (List.nil_sublist _)) (vnil (t := 6) 1 8 rfl)) ?_
      ((with_reducible apply rq2); rfl; rfl; rfl)
      exact ret_eq rfl
    · rw [hb] at hG
      dsimp only at hG
      all_goals haveI fA_ : FlagA := ⟨⟩
      all_goals haveI fH_ : FlagH := ⟨⟩
      repeat' (first
        | ((with_reducible apply call0); (focus rfl); (focus exact cal_Eval); (focus exact hG); (focus rfl))
        | ((with_reducible apply je_call0); (focus rfl); (focus (decide +kernel)); (focus rfl); (focus exact cal_Eval); (focus exact hG); (focus rfl))
        | exact True.intro
        | refine stp ?_
        | refine two ?_ ?_
        | refine allc fun c_ => ?_
        | (refine imp fun hc => ?_) <;> try (first | contradiction | (exfalso; omega) | (exfalso; exact absurd (of_dT hc) (by assumption)) | (exfalso; exact of_dF hc (by assumption)))
        | refine all fun v_ => ?_)
      all_goals clear fA_ fH_
      refine retv (VS.trans (VS.drop (List.nil_sublist _)) (vnil (t := 6) 1 8 rfl)) ?_
      ((with_reducible apply rq2); rfl; rfl; rfl)
      exact ret_eq rfl
    · exact absurd hb h0
  replace h0 := Decidable.not_not.1 h0
  rw [h0] at hG
  dsimp only at hG
  all_goals haveI fA_ : FlagA := ⟨⟩
  all_goals haveI fH_ : FlagH := ⟨⟩
  repeat' (first
    | ((with_reducible apply call0); (focus rfl); (focus exact cal_Eval); (focus exact hG); (focus rfl))
    | ((with_reducible apply je_call0); (focus rfl); (focus (decide +kernel)); (focus rfl); (focus exact cal_Eval); (focus exact hG); (focus rfl))
    | ((with_reducible apply callE1); (focus rfl); (focus exact cal_CloneI); (focus exact CloneI _ _); (focus rfl))
    | ((with_reducible apply je_callE); (focus rfl); (focus (decide +kernel)); (focus rfl); (focus exact cal_CloneI); (focus exact CloneI _ _); (focus rfl))
    | exact True.intro
    | refine stp ?_
    | refine two ?_ ?_
    | refine allc fun c_ => ?_
    | (refine imp fun hc => ?_) <;> try (first | contradiction | (exfalso; omega) | (exfalso; exact absurd (of_dT hc) (by assumption)) | (exfalso; exact of_dF hc (by assumption)))
    | refine all fun v_ => ?_)
  all_goals clear fA_ fH_
  rename_i bm br _
  refine J_loopV (X := Nat) (fun i => [(2, .d (intsD vs)), (3, .val (.pointer (some ⟨bm, 0, none⟩))), (10, .val v_.v), (32, .d (setsD r.sets)), (33, .int r.sets.length), (34, .int i)]) (fun i => [rowE v_.v 3 1 intC (setAll vs (r.sets.take i) vs), .cells bm 25 [.d (varsD m.vars), .d (rulesD m.rules)]]) (fun i => i ≤ r.sets.length ∧ ∀ s ∈ r.sets.take i, setOk m vs s) (fun i => r.sets.length - i) 0 ⟨Nat.zero_le _, fun s hs => (by cases hs)⟩ (VS.take (by ((repeat (first | exact Take.nil | ((with_reducible apply Take.cons); (focus ((repeat (first | exact Sel.here | with_reducible apply Sel.there)); done))))); done)) ?_) ?_
  · repeat (first
      | exact Env.le_nil _
      | refine Env.le_cons (AV.le_refl _) ?_
      | refine Env.le_cons (AV.le_int rfl (by first | rfl | omega | (dsimp only; omega))) ?_)
  rintro i ⟨hi, hok⟩
  have hsl := setAll_length vs (r.sets.take i) vs
  by_cases hil : i < r.sets.length
  · have hs := List.getElem_mem hil
    obtain ⟨a1, a2, a3⟩ := gr.sets _ hs
    have a4 : r.sets[i].var.toNat < m.vars.length := by omega
    have hE := Eval r.sets[i].val vs
    have hx := fun n e (he : evalF r.sets[i].val vs = (n, e)) => setOk_iff (m := m) (vs := vs) (s := r.sets[i]) (n := n) (e := e) he (by omega)
    have hn := setAll_succ vs r.sets i hil
    generalize evalF r.sets[i].val vs = p at hE hx hn
    obtain ⟨n, e⟩ := p
    have hx := hx n e rfl
    dsimp only at hE hn
    by_cases hgood : setOk m vs r.sets[i]
    · have hx := hx.1 hgood
      obtain ⟨rfl, x1, x2⟩ := hx
      all_goals haveI fA_ : FlagA := ⟨⟩
      all_goals haveI fH_ : FlagH := ⟨⟩
      repeat' (first
        | ((with_reducible apply call0); (focus rfl); (focus exact cal_Eval); (focus exact hE); (focus rfl))
        | ((with_reducible apply je_call0); (focus rfl); (focus (decide +kernel)); (focus rfl); (focus exact cal_Eval); (focus exact hE); (focus rfl))
        | exact True.intro
        | refine stp ?_
        | refine two ?_ ?_
        | refine allc fun c_ => ?_
        | (refine imp fun hc => ?_) <;> try (first | contradiction | (exfalso; omega) | (exfalso; exact absurd (of_dT hc) (by assumption)) | (exfalso; exact of_dF hc (by assumption)))
        | refine all fun v_ => ?_)
      all_goals clear fA_ fH_
      refine ⟨i + 1, ⟨by omega, fun s h => ?_⟩, by omega, ?_⟩
      · rw [List.take_succ_eq_append_getElem hil] at h
        rcases List.mem_append.1 h with h | h
        · exact hok s h
        · rw [List.mem_singleton.1 h]; exact hgood
      · rw [hn]
        refine VS.take (by ((repeat (first | exact Take.nil | ((with_reducible apply Take.cons); (focus ((repeat (first | exact Sel.here | with_reducible apply Sel.there)); done))))); done)) ?_
        repeat (first
          | exact Env.le_nil _
          | refine Env.le_cons (AV.le_refl _) ?_
          | refine Env.le_cons (AV.le_int rfl (by first | rfl | omega | (dsimp only; omega))) ?_)
    · rw [afterF_set hs hgood]
      by_cases x0 : e ≠ 0
      · all_goals haveI fA_ : FlagA := ⟨⟩
        all_goals haveI fH_ : FlagH := ⟨⟩
        repeat' (first
          | ((with_reducible apply call0); (focus rfl); (focus exact cal_Eval); (focus exact hE); (focus rfl))
          | ((with_reducible apply je_call0); (focus rfl); (focus (decide +kernel)); (focus rfl); (focus exact cal_Eval); (focus exact hE); (focus rfl))
          | exact True.intro
          | refine stp ?_
          | refine two ?_ ?_
          | refine allc fun c_ => ?_
          | (refine imp fun hc => ?_) <;> try (first | contradiction | (exfalso; omega) | (exfalso; exact absurd (of_dT hc) (by assumption)) | (exfalso; exact of_dF hc (by assumption)))
          | refine all fun v_ => ?_)
        all_goals clear fA_ fH_
        refine retv (VS.trans (VS.drop (List.nil_sublist _)) (vnil (t := 6) 1 8 rfl)) ?_
        ((with_reducible apply rq2); rfl; rfl; rfl)
        exact ret_eq rfl
      replace x0 := Decidable.not_not.1 x0
      subst x0
      by_cases x1 : n < m.vars[r.sets[i].var.toNat].low
      · all_goals haveI fA_ : FlagA := ⟨⟩
        all_goals haveI fH_ : FlagH := ⟨⟩
        repeat' (first
          | ((with_reducible apply call0); (focus rfl); (focus exact cal_Eval); (focus exact hE); (focus rfl))
          | ((with_reducible apply je_call0); (focus rfl); (focus (decide +kernel)); (focus rfl); (focus exact cal_Eval); (focus exact hE); (focus rfl))
          | exact True.intro
          | refine stp ?_
          | refine two ?_ ?_
          | refine allc fun c_ => ?_
          | (refine imp fun hc => ?_) <;> try (first | contradiction | (exfalso; omega) | (exfalso; exact absurd (of_dT hc) (by assumption)) | (exfalso; exact of_dF hc (by assumption)))
          | refine all fun v_ => ?_)
        all_goals clear fA_ fH_
        refine retv (VS.trans (VS.drop (List.nil_sublist _)) (vnil (t := 6) 1 8 rfl)) ?_
        ((with_reducible apply rq2); rfl; rfl; rfl)
        exact ret_eq rfl
      by_cases x2 : m.vars[r.sets[i].var.toNat].high < n
      · all_goals haveI fA_ : FlagA := ⟨⟩
        all_goals haveI fH_ : FlagH := ⟨⟩
        repeat' (first
          | ((with_reducible apply call0); (focus rfl); (focus exact cal_Eval); (focus exact hE); (focus rfl))
          | ((with_reducible apply je_call0); (focus rfl); (focus (decide +kernel)); (focus rfl); (focus exact cal_Eval); (focus exact hE); (focus rfl))
          | exact True.intro
          | refine stp ?_
          | refine two ?_ ?_
          | refine allc fun c_ => ?_
          | (refine imp fun hc => ?_) <;> try (first | contradiction | (exfalso; omega) | (exfalso; exact absurd (of_dT hc) (by assumption)) | (exfalso; exact of_dF hc (by assumption)))
          | refine all fun v_ => ?_)
        all_goals clear fA_ fH_
        refine retv (VS.trans (VS.drop (List.nil_sublist _)) (vnil (t := 6) 1 8 rfl)) ?_
        ((with_reducible apply rq2); rfl; rfl; rfl)
        exact ret_eq rfl
      exact absurd (hx.2 ⟨rfl, by omega, by omega⟩) hgood
  obtain rfl : i = r.sets.length := by omega
  rw [List.take_length] at hok hsl ⊢
  rw [afterF_some h0 hok]
  all_goals haveI fA_ : FlagA := ⟨⟩
  all_goals haveI fH_ : FlagH := ⟨⟩
  repeat' (first
    | exact True.intro
    | refine stp ?_
    | refine two ?_ ?_
    | refine allc fun c_ => ?_
    | (refine imp fun hc => ?_) <;> try (first | contradiction | (exfalso; omega) | (exfalso; exact absurd (of_dT hc) (by assumption)) | (exfalso; exact of_dF hc (by assumption)))
    | refine all fun v_ => ?_)
  all_goals clear fA_ fH_
  refine retv (VS.trans (vfreeze (t := 6) (eb := 8) rfl rfl (fun x => rfl) (by omega)) (VS.drop (List.nil_sublist _))) ?_
  ((with_reducible apply rq2); rfl; rfl; rfl)
  exact ret_eq rfl
end Go.Proofs.YtcikppldaepodaaGreatDoor
namespace Go.Proofs
open Go.Shelf
set_option linter.unusedVariables false
set_option linter.unusedSimpArgs false
def Tryz.lays189_ren : Go.Shelf.Ren := ⟨fun | 189 => 196 | 125 => 245 | 257 => 244 | 128 => 279 | 129 => 280 | 294 => 271 | 295 => 272 | 296 => 273 | 297 => 274 | 298 => 275 | 299 => 276 | 216 => 269 | 300 => 277 | 301 => 278 | 328 => 291 | 329 => 292 | 330 => 293 | 331 => 294 | 332 => 295 | 215 => 290 | 343 => 298 | n => n, fun | 28 => 30 | 3 => 3 | 46 => 284 | 0 => 0 | 51 => 321 | 53 => 299 | 4 => 4 | 183 => 315 | 182 => 314 | 131 => 86 | 5 => 5 | 9 => 9 | 218 => 335 | 222 => 339 | 228 => 341 | 229 => 342 | n => n, fun | n => n⟩
theorem Tryz.lays189 : Go.Proofs.Lays.n189 Tryz.prog Tryz.lays189_ren := {
  mixed := by kernel_rfl
  f125 := Tryz.func245.trans (congrArg some (by kernel_rfl))
  f128 := Tryz.func279.trans (congrArg some (by kernel_rfl))
  f129 := Tryz.func280.trans (congrArg some (by kernel_rfl))
  f189 := Tryz.func196.trans (congrArg some (by kernel_rfl))
  f215 := Tryz.func290.trans (congrArg some (by kernel_rfl))
  f216 := Tryz.func269.trans (congrArg some (by kernel_rfl))
  f257 := Tryz.func244.trans (congrArg some (by kernel_rfl))
  f294 := Tryz.func271.trans (congrArg some (by kernel_rfl))
  f295 := Tryz.func272.trans (congrArg some (by kernel_rfl))
  f296 := Tryz.func273.trans (congrArg some (by kernel_rfl))
  f297 := Tryz.func274.trans (congrArg some (by kernel_rfl))
  f298 := Tryz.func275.trans (congrArg some (by kernel_rfl))
  f299 := Tryz.func276.trans (congrArg some (by kernel_rfl))
  f300 := Tryz.func277.trans (congrArg some (by kernel_rfl))
  f301 := Tryz.func278.trans (congrArg some (by kernel_rfl))
  f328 := Tryz.func291.trans (congrArg some (by kernel_rfl))
  f329 := Tryz.func292.trans (congrArg some (by kernel_rfl))
  f330 := Tryz.func293.trans (congrArg some (by kernel_rfl))
  f331 := Tryz.func294.trans (congrArg some (by kernel_rfl))
  f332 := Tryz.func295.trans (congrArg some (by kernel_rfl))
  f343 := Tryz.func298.trans (congrArg some (by kernel_rfl))
  t0 := Tryz.underlying0
  a0 := Tryz.isAgg0
  z0 := Tryz.sizeOf0
  v0 := Tryz.zeroValue0
  t3 := Tryz.underlying3
  a3 := Tryz.isAgg3
  z3 := Tryz.sizeOf3
  v3 := Tryz.zeroValue3
  t4 := Tryz.underlying4
  a4 := Tryz.isAgg4
  z4 := Tryz.sizeOf4
  v4 := Tryz.zeroValue4
  t5 := Tryz.underlying5
  a5 := Tryz.isAgg5
  z5 := Tryz.sizeOf5
  v5 := Tryz.zeroValue5
  t9 := Tryz.underlying9
  a9 := Tryz.isAgg9
  z9 := Tryz.sizeOf9
  v9 := Tryz.zeroValue9
  t28 := Tryz.underlying30
  a28 := Tryz.isAgg30
  z28 := Tryz.sizeOf30
  v28 := Tryz.zeroValue30
  t46 := Tryz.underlying284
  a46 := Tryz.isAgg284
  z46 := Tryz.sizeOf284
  v46 := Tryz.zeroValue284
  t51 := Tryz.underlying321
  a51 := Tryz.isAgg321
  z51 := Tryz.sizeOf321
  v51 := Tryz.zeroValue321
  t53 := Tryz.underlying299
  a53 := Tryz.isAgg299
  z53 := Tryz.sizeOf299
  v53 := Tryz.zeroValue299
  t131 := Tryz.underlying86
  a131 := Tryz.isAgg86
  z131 := Tryz.sizeOf86
  v131 := Tryz.zeroValue86
  t182 := Tryz.underlying314
  a182 := Tryz.isAgg314
  z182 := Tryz.sizeOf314
  v182 := Tryz.zeroValue314
  t183 := Tryz.underlying315
  a183 := Tryz.isAgg315
  z183 := Tryz.sizeOf315
  v183 := Tryz.zeroValue315
  t218 := Tryz.underlying335
  a218 := Tryz.isAgg335
  z218 := Tryz.sizeOf335
  v218 := Tryz.zeroValue335
  t222 := Tryz.underlying339
  a222 := Tryz.isAgg339
  z222 := Tryz.sizeOf339
  v222 := Tryz.zeroValue339
  t228 := Tryz.underlying341
  a228 := Tryz.isAgg341
  z228 := Tryz.sizeOf341
  v228 := Tryz.zeroValue341
  t229 := Tryz.underlying342
  a229 := Tryz.isAgg342
  z229 := Tryz.sizeOf342
  v229 := Tryz.zeroValue342 }
def Tryz.lays20_ren : Go.Shelf.Ren := ⟨fun | 20 => 197 | n => n, fun | 22 => 30 | 3 => 3 | 4 => 4 | 0 => 0 | n => n, fun | n => n⟩
theorem Tryz.lays20 : Go.Proofs.Lays2.n20 Tryz.prog Tryz.lays20_ren := {
  mixed := by kernel_rfl
  f20 := Tryz.func197.trans (congrArg some (by kernel_rfl))
  t0 := Tryz.underlying0
  a0 := Tryz.isAgg0
  z0 := Tryz.sizeOf0
  v0 := Tryz.zeroValue0
  t3 := Tryz.underlying3
  a3 := Tryz.isAgg3
  z3 := Tryz.sizeOf3
  v3 := Tryz.zeroValue3
  t4 := Tryz.underlying4
  a4 := Tryz.isAgg4
  z4 := Tryz.sizeOf4
  v4 := Tryz.zeroValue4
  t22 := Tryz.underlying30
  a22 := Tryz.isAgg30
  z22 := Tryz.sizeOf30
  v22 := Tryz.zeroValue30
  i3 := by kernel_rfl }
end Go.Proofs
namespace Go.Proofs.YtcikppldaepodaaGreatDoor
open Go Go.Av Go.Sp
set_option linter.unusedVariables false
set_option linter.unusedSimpArgs false
set_option maxRecDepth 100000
set_option maxHeartbeats 4000000
theorem cal_SortI : Cal Tryz.prog 196 := Cal.of Tryz.func196 (by kernel_rfl) (by kernel_rfl)
theorem cal_CompactI : Cal Tryz.prog 197 := Cal.of Tryz.func197 (by kernel_rfl) (by kernel_rfl)
theorem cal_IndexI : Cal Tryz.prog 145 := Cal.of Tryz.func145 (by kernel_rfl) (by kernel_rfl)
theorem cal_ContainsI : Cal Tryz.prog 82 := Cal.of Tryz.func82 (by kernel_rfl) (by kernel_rfl)
theorem SortI (G : List (Nat × List D)) (q : Sl) (xs : List Int) (hb : xs.length < 4611686018427387904) : AC Tryz.prog G 196 [.val q.v] [rowE q.v 3 1 intC xs] fun e h => e = .ret (.tup []) ∧ h = [rowE q.v 3 1 intC (sortI xs)] :=
  AC_sortI q xs hb (fun blk cap zs w h1 h2 h3 => Any.slices_Sort_int Tryz.lays189 blk 0 cap zs w h1 h2 h3) fun w => Any.slices_Sort_int_none Tryz.lays189 none 0 w
theorem CompactI (G : List (Nat × List D)) (q : Sl) (xs : List Int) (hb : xs.length ≤ 9223372036854775807) (hk : (Lib.compact xs).length ≤ xs.length) : AC Tryz.prog G 197 [.val q.v] [rowE q.v 3 1 intC xs] fun e h => ∃ q' : Sl, e = .ret (.val q'.v) ∧ h = [rowE q'.v 3 1 intC (Lib.compact xs)] :=
  AC_compactI q xs hb hk (fun blk cap zs w h1 h2 h3 => Any.slices_Compact_int Tryz.lays20 blk 0 cap zs w h1 h2 h3) fun w => Any.slices_Compact_int_empty Tryz.lays20 none 0 w
def indexZ (v : Int) : List Int → Nat → Int
  | [], _ => -1
  | x :: l, i => if v = x then i else indexZ v l (i + 1)
theorem indexZ_at (v : Int) (l : List Int) (i : Nat) (h : i < l.length) : indexZ v (l.drop i) i = if v = l[i] then (i : Int) else indexZ v (l.drop (i + 1)) (i + 1) := by
  rw [List.drop_eq_getElem_cons h, indexZ]
theorem indexZ_end (v : Int) (l : List Int) (i : Nat) (h : l.length ≤ i) : indexZ v (l.drop i) i = -1 := by
  rw [List.drop_of_length_le h, indexZ]
theorem indexZ_in (v : Int) : ∀ (l : List Int) (i : Nat), 0 ≤ indexZ v l i ↔ v ∈ l
  | [], i => by simp [indexZ]
  | x :: l, i => by
    rw [indexZ, List.mem_cons]
    by_cases h : v = x
    · rw [if_pos h]; exact ⟨fun _ => .inl h, fun _ => by omega⟩
    · rw [if_neg h, indexZ_in v l (i + 1)]; exact ⟨.inr, fun k => k.resolve_left h⟩
theorem IndexI (G : List (Nat × List D)) (l : List Int) (v : Int) : ACr Tryz.prog G 145 [.d (intsD l), .int v] (.int (indexZ v l 0)) := by
  refine AC_ofV (ts := [4]) Tryz.f145.ntmps Tryz.func145 rfl rfl rfl (by simp [Tryz.ntmps145]) fun W I => ?_
  refine jfact (t := 0) rfl fun hl => ?_
  all_goals haveI fA_ : FlagA := ⟨⟩
  all_goals haveI fH_ : FlagH := ⟨⟩
  repeat' (first
    | exact True.intro
    | refine stp ?_
    | refine two ?_ ?_
    | refine allc fun c_ => ?_
    | (refine imp fun hc => ?_) <;> try (first | contradiction | (exfalso; omega) | (exfalso; exact absurd (of_dT hc) (by assumption)) | (exfalso; exact of_dF hc (by assumption)))
    | refine all fun v_ => ?_)
  all_goals clear fA_ fH_
  refine J_loopV (X := Nat) (fun i => [(0, .d (intsD l)), (1, .int v), (7, .int l.length), (8, .int i)]) (fun _ => []) (fun i => i ≤ l.length ∧ indexZ v l 0 = indexZ v (l.drop i) i) (fun i => l.length - i) 0 ⟨Nat.zero_le _, rfl⟩ (VS.of_le ?_) ?_
  · repeat (first
      | exact Env.le_nil _
      | refine Env.le_cons (AV.le_refl _) ?_
      | refine Env.le_cons (AV.le_int rfl (by first | rfl | omega | (dsimp only; omega))) ?_)
  rintro i ⟨h1, h2⟩
  by_cases hi : i < l.length
  · rw [indexZ_at v l i hi] at h2
    by_cases hv : v = l[i]
    · rw [if_pos hv] at h2
      all_goals haveI fA_ : FlagA := ⟨⟩
      all_goals haveI fH_ : FlagH := ⟨⟩
      repeat' (first
        | exact True.intro
        | refine stp ?_
        | refine two ?_ ?_
        | refine allc fun c_ => ?_
        | (refine imp fun hc => ?_) <;> try (first | contradiction | (exfalso; omega) | (exfalso; exact absurd (of_dT hc) (by assumption)) | (exfalso; exact of_dF hc (by assumption)))
        | refine all fun v_ => ?_)
      all_goals clear fA_ fH_
      refine retv0 ?_
      ((with_reducible apply rq1); rfl; rfl)
      exact ret_eq (by rw [h2])
    · rw [if_neg hv] at h2
      all_goals haveI fA_ : FlagA := ⟨⟩
      all_goals haveI fH_ : FlagH := ⟨⟩
      repeat' (first
        | exact True.intro
        | refine stp ?_
        | refine two ?_ ?_
        | refine allc fun c_ => ?_
        | (refine imp fun hc => ?_) <;> try (first | contradiction | (exfalso; omega) | (exfalso; exact absurd (of_dT hc) (by assumption)) | (exfalso; exact of_dF hc (by assumption)))
        | refine all fun v_ => ?_)
      all_goals clear fA_ fH_
      refine ⟨i + 1, ⟨by omega, h2⟩, by omega, VS.of_le ?_⟩
      repeat (first
        | exact Env.le_nil _
        | refine Env.le_cons (AV.le_refl _) ?_
        | refine Env.le_cons (AV.le_int rfl (by first | rfl | omega | (dsimp only; omega))) ?_)
  rw [indexZ_end v l i (by omega)] at h2
  all_goals haveI fA_ : FlagA := ⟨⟩
  all_goals haveI fH_ : FlagH := ⟨⟩
  repeat' (first
    | exact True.intro
    | refine stp ?_
    | refine two ?_ ?_
    | refine allc fun c_ => ?_
    | (refine imp fun hc => ?_) <;> try (first | contradiction | (exfalso; omega) | (exfalso; exact absurd (of_dT hc) (by assumption)) | (exfalso; exact of_dF hc (by assumption)))
    | refine all fun v_ => ?_)
  all_goals clear fA_ fH_
  refine retv0 ?_
  ((with_reducible apply rq1); rfl; rfl)
  exact ret_eq (by rw [h2])
theorem ContainsI (G : List (Nat × List D)) (l : List Int) (v : Int) : ACr Tryz.prog G 82 [.d (intsD l), .int v] (.bool (decide (v ∈ l))) := by
  refine AC_ofV (ts := [4]) Tryz.f82.ntmps Tryz.func82 rfl rfl rfl (by simp [Tryz.ntmps82]) fun W I => ?_
  all_goals haveI fA_ : FlagA := ⟨⟩
  all_goals haveI fH_ : FlagH := ⟨⟩
  repeat' (first
    | ((with_reducible apply call0); (focus rfl); (focus exact cal_IndexI); (focus exact IndexI _ _ _); (focus rfl))
    | ((with_reducible apply je_call0); (focus rfl); (focus (decide +kernel)); (focus rfl); (focus exact cal_IndexI); (focus exact IndexI _ _ _); (focus rfl))
    | exact True.intro
    | refine stp ?_
    | refine two ?_ ?_
    | refine allc fun c_ => ?_
    | (refine imp fun hc => ?_) <;> try (first | contradiction | (exfalso; omega) | (exfalso; exact absurd (of_dT hc) (by assumption)) | (exfalso; exact of_dF hc (by assumption)))
    | refine all fun v_ => ?_)
  all_goals clear fA_ fH_
  refine retv0 ?_
  ((with_reducible apply rq1); rfl; rfl)
  refine ret_eq (congrArg AV.bool ?_)
  exact decide_eq_decide.2 (indexZ_in v l 0)
end Go.Proofs.YtcikppldaepodaaGreatDoor
namespace Go.Proofs.YtcikppldaepodaaGreatDoor
open Go Go.Av Go.Sp
set_option linter.unusedVariables false
set_option linter.unusedSimpArgs false
set_option maxRecDepth 100000
set_option maxHeartbeats 4000000
theorem cal_next : Cal Tryz.prog 144 := Cal.of Tryz.func144 (by kernel_rfl) (by kernel_rfl)
theorem cal_Next : Cal Tryz.prog 81 := Cal.of Tryz.func81 (by kernel_rfl) (by kernel_rfl)
theorem SortU (G : List (Nat × List D)) (q : Sl) (xs : List Int) (hb : xs.length < 4611686018427387904) : AC Tryz.prog G 196 [.val q.v] [rowE q.v 3 1 intC xs] fun e h => ∃ _ : Unit, e = .ret (.tup []) ∧ h = [rowE q.v 3 1 intC (sortI xs)] :=
  (SortI G q xs hb).mono fun _ _ h => ⟨(), h.1, h.2⟩
theorem CompactU (G : List (Nat × List D)) (q : Sl) (xs : List Int) (hb : xs.length ≤ 1000000) : AC Tryz.prog G 197 [.val q.v] [rowE q.v 3 1 intC xs] fun e h => ∃ q' : Sl, e = .ret (.val q'.v) ∧ h = [rowE q'.v 3 1 intC (Lib.compact xs)] :=
  CompactI G q xs (by omega) (compact_len xs _ (Nat.le_refl _))
theorem next (m : Md) (hm : modelF m = 0) (vs : List Int) (g : InV m vs) : AC Tryz.prog GP 144 [mdA m, .d (intsD vs)] [] fun e h => ∃ q : Sl, e = .ret (.val q.v) ∧ h = [rowE q.v 3 1 intC (Lib.compact (sortI (codesL m vs m.rules)))] := by
  have h12 := modelF_few hm
  refine AC_ofV (ts := [4]) Tryz.f144.ntmps Tryz.func144 rfl rfl rfl (by simp [Tryz.ntmps144]) fun W I => ?_
  all_goals haveI fA_ : FlagA := ⟨⟩
  all_goals haveI fH_ : FlagH := ⟨⟩
  repeat' (first
    | exact True.intro
    | refine stp ?_
    | refine two ?_ ?_
    | refine allc fun c_ => ?_
    | (refine imp fun hc => ?_) <;> try (first | contradiction | (exfalso; omega) | (exfalso; exact absurd (of_dT hc) (by assumption)) | (exfalso; exact of_dF hc (by assumption)))
    | refine all fun v_ => ?_)
  all_goals clear fA_ fH_
  obtain ⟨bm, rfl⟩ : ∃ x, x = v_ := ⟨v_, rfl⟩
  refine jrow (E := 3) (sz := 1) intC ?_
  refine J_loopV (X := Nat × Sl) (fun y => [(1, .d (intsD vs)), (2, .val (.pointer (some ⟨bm, 0, none⟩))), (5, .val y.2.v), (13, .d (rulesD m.rules)), (14, .int m.rules.length), (15, .int y.1)]) (fun y => [rowE y.2.v 3 1 intC (codesL m vs (m.rules.take y.1)), .cells bm 25 [.d (varsD m.vars), .d (rulesD m.rules)]]) (fun y => y.1 ≤ m.rules.length) (fun y => m.rules.length - y.1) (0, Sl.nil) (Nat.zero_le _) (VS.take (by ((repeat (first | exact Take.nil | ((with_reducible apply Take.cons); (focus ((repeat (first | exact Sel.here | with_reducible apply Sel.there)); done))))); done)) ?_) ?_
  · repeat (first
      | exact Env.le_nil _
      | refine Env.le_cons (AV.le_refl _) ?_
      | refine Env.le_cons (AV.le_int rfl (by first | rfl | omega | (dsimp only; omega))) ?_)
  rintro ⟨i, q⟩ hi
  dsimp only at hi ⊢
  have hln := codesL_len m vs (m.rules.take i)
  rw [List.length_take] at hln
  by_cases hil : i < m.rules.length
  · have hr := List.getElem_mem hil
    have hA := after m hm _ hr vs g
    cases ho : afterF m m.rules[i] vs with
    | none =>
      have hs := codesL_none hil ho
      rw [ho] at hA
      simp only [Option.getD_none, Option.isSome_none] at hA
      all_goals haveI fA_ : FlagA := ⟨⟩
      all_goals haveI fH_ : FlagH := ⟨⟩
      repeat' (first
        | ((with_reducible apply call0); (focus rfl); (focus exact cal_after); (focus exact hA); (focus rfl))
        | ((with_reducible apply je_call0); (focus rfl); (focus (decide +kernel)); (focus rfl); (focus exact cal_after); (focus exact hA); (focus rfl))
        | exact True.intro
        | refine stp ?_
        | refine two ?_ ?_
        | refine allc fun c_ => ?_
        | (refine imp fun hc => ?_) <;> try (first | contradiction | (exfalso; omega) | (exfalso; exact absurd (of_dT hc) (by assumption)) | (exfalso; exact of_dF hc (by assumption)))
        | refine all fun v_ => ?_)
      all_goals clear fA_ fH_
      refine ⟨(i + 1, q), by dsimp only; omega, by dsimp only; omega, VS.take (by dsimp only; rw [hs]; ((repeat (first | exact Take.nil | ((with_reducible apply Take.cons); (focus ((repeat (first | exact Sel.here | with_reducible apply Sel.there)); done))))); done)) ?_⟩
      repeat (first
        | exact Env.le_nil _
        | refine Env.le_cons (AV.le_refl _) ?_
        | refine Env.le_cons (AV.le_int rfl (by first | rfl | omega | (dsimp only; omega))) ?_)
    | some out =>
      have hs := codesL_some hil ho
      rw [ho] at hA
      simp only [Option.getD_some, Option.isSome_some] at hA
      all_goals haveI fA_ : FlagA := ⟨⟩
      all_goals haveI fH_ : FlagH := ⟨⟩
      repeat' (first
        | ((with_reducible apply call0); (focus rfl); (focus exact cal_after); (focus exact hA); (focus rfl))
        | ((with_reducible apply je_call0); (focus rfl); (focus (decide +kernel)); (focus rfl); (focus exact cal_after); (focus exact hA); (focus rfl))
        | ((with_reducible apply call0); (focus rfl); (focus exact cal_Code); (focus exact Code _ _); (focus rfl))
        | ((with_reducible apply je_call0); (focus rfl); (focus (decide +kernel)); (focus rfl); (focus exact cal_Code); (focus exact Code _ _); (focus rfl))
        | exact True.intro
        | refine stp ?_
        | refine two ?_ ?_
        | refine allc fun c_ => ?_
        | (refine imp fun hc => ?_) <;> try (first | contradiction | (exfalso; omega) | (exfalso; exact absurd (of_dT hc) (by assumption)) | (exfalso; exact of_dF hc (by assumption)))
        | refine all fun v_ => ?_)
      all_goals clear fA_ fH_
      refine ⟨(i + 1, v_), by dsimp only; omega, by dsimp only; omega, VS.take (by dsimp only; rw [hs]; ((repeat (first | exact Take.nil | ((with_reducible apply Take.cons); (focus ((repeat (first | exact Sel.here | with_reducible apply Sel.there)); done))))); done)) ?_⟩
      repeat (first
        | exact Env.le_nil _
        | refine Env.le_cons (AV.le_refl _) ?_
        | refine Env.le_cons (AV.le_int rfl (by first | rfl | omega | (dsimp only; omega))) ?_)
  obtain rfl : i = m.rules.length := by omega
  rw [List.take_length] at hln ⊢
  generalize codesL m vs m.rules = cs at hln ⊢
  have hsl := sortI_length cs
  all_goals haveI fA_ : FlagA := ⟨⟩
  all_goals haveI fH_ : FlagH := ⟨⟩
  repeat' (first
    | ((with_reducible apply callG); (focus rfl); (focus exact cal_SortI); (focus exact SortU GP q cs (by omega)); (focus ((repeat (first | with_reducible exact Take.nil | ((with_reducible apply Take.cons); (focus ((repeat (first | with_reducible exact Sel.here | with_reducible apply Sel.there)); done))))); done)); (focus rfl); (focus (intro v_; (repeat (first | exact App.nil | apply App.cons)); done)))
    | ((with_reducible apply callG); (focus rfl); (focus exact cal_CompactI); (focus exact CompactU GP q (sortI cs) (by omega)); (focus ((repeat (first | with_reducible exact Take.nil | ((with_reducible apply Take.cons); (focus ((repeat (first | with_reducible exact Sel.here | with_reducible apply Sel.there)); done))))); done)); (focus rfl); (focus (intro v_; (repeat (first | exact App.nil | apply App.cons)); done)))
    | exact True.intro
    | refine stp ?_
    | refine two ?_ ?_
    | refine allc fun c_ => ?_
    | (refine imp fun hc => ?_) <;> try (first | contradiction | (exfalso; omega) | (exfalso; exact absurd (of_dT hc) (by assumption)) | (exfalso; exact of_dF hc (by assumption)))
    | refine all fun v_ => ?_)
  all_goals clear fA_ fH_
  refine retv (VS.drop (h' := [rowE v_.v 3 1 intC (Lib.compact (sortI cs))]) (by (repeat (first | exact List.nil_sublist _ | (with_reducible apply List.Sublist.cons_cons) | apply List.Sublist.cons)))) ?_
  ((with_reducible apply rq1); rfl; rfl)
  exact ⟨v_, rfl, rfl⟩
theorem Next (m : Md) (code : Int) : ACr Tryz.prog GP 81 [mdA m, .int code] (.tup [.d (intsD (nextF m code).1), .int (nextF m code).2]) := by
  have hV := Values m code
  refine AC_ofV (ts := [4, 5]) Tryz.f81.ntmps Tryz.func81 rfl rfl rfl (by simp [Tryz.ntmps81]) fun W I => ?_
  by_cases h1 : (valsF m code).2 ≠ 0
  · rw [nextF_err h1]
    all_goals haveI fA_ : FlagA := ⟨⟩
    all_goals haveI fH_ : FlagH := ⟨⟩
    repeat' (first
      | ((with_reducible apply call0); (focus rfl); (focus exact cal_Values); (focus exact hV); (focus rfl))
      | ((with_reducible apply je_call0); (focus rfl); (focus (decide +kernel)); (focus rfl); (focus exact cal_Values); (focus exact hV); (focus rfl))
      | exact True.intro
      | refine stp ?_
      | refine two ?_ ?_
      | refine allc fun c_ => ?_
      | (refine imp fun hc => ?_) <;> try (first | contradiction | (exfalso; omega) | (exfalso; exact absurd (of_dT hc) (by assumption)) | (exfalso; exact of_dF hc (by assumption)))
      | refine all fun v_ => ?_)
    all_goals clear fA_ fH_
    refine retv (VS.trans (VS.drop (List.nil_sublist _)) (vnil (t := 4) 1 8 rfl)) ?_
    ((with_reducible apply rq2); rfl; rfl; rfl)
    exact ret_eq rfl
  rw [nextF_ok (Decidable.not_not.1 h1)]
  obtain ⟨hm, c0, c1, hF⟩ := valsF_ok (Decidable.not_not.1 h1)
  have g := InV.vals hm c0 c1
  rw [hF] at hV
  dsimp only at hV
  clear h1
  have hN := next m hm _ g
  have hr := codesL_range hm g
  obtain ⟨n, hn, n1, n2⟩ := states_nat hm
  rw [hn] at hr ⊢
  rw [compact_sort n _ hr] at hN
  generalize codesL m (valsT m.vars code) m.rules = cs at hN hr ⊢
  have hul := upTo_len n cs
  rw [Int.toNat_natCast]
  by_cases hcs : cs = []
  · subst hcs
    rw [upTo_nil] at hN hul
    rw [if_pos rfl]
    all_goals haveI fA_ : FlagA := ⟨⟩
    all_goals haveI fH_ : FlagH := ⟨⟩
    repeat' (first
      | ((with_reducible apply call0); (focus rfl); (focus exact cal_Values); (focus exact hV); (focus rfl))
      | ((with_reducible apply je_call0); (focus rfl); (focus (decide +kernel)); (focus rfl); (focus exact cal_Values); (focus exact hV); (focus rfl))
      | ((with_reducible apply callE1); (focus rfl); (focus exact cal_next); (focus exact hN); (focus rfl))
      | ((with_reducible apply je_callE); (focus rfl); (focus (decide +kernel)); (focus rfl); (focus exact cal_next); (focus exact hN); (focus rfl))
      | exact True.intro
      | refine stp ?_
      | refine two ?_ ?_
      | refine allc fun c_ => ?_
      | (refine imp fun hc => ?_) <;> try (first | contradiction | (exfalso; omega) | (exfalso; exact absurd (of_dT hc) (by assumption)) | (exfalso; exact of_dF hc (by assumption)))
      | refine all fun v_ => ?_)
    all_goals clear fA_ fH_
    refine retv (VS.trans (vfreeze (t := 4) (eb := 8) rfl rfl (fun x => rfl) (by simp)) (VS.drop (List.nil_sublist _))) ?_
    ((with_reducible apply rq2); rfl; rfl; rfl)
    exact ret_eq rfl
  · rw [if_neg hcs]
    have hu0 : 0 < (upTo n cs).length := by
      obtain ⟨x, hx⟩ := List.exists_mem_of_ne_nil _ hcs
      exact List.length_pos_of_mem ((mem_upTo hr x).2 hx)
    all_goals haveI fA_ : FlagA := ⟨⟩
    all_goals haveI fH_ : FlagH := ⟨⟩
    repeat' (first
      | ((with_reducible apply call0); (focus rfl); (focus exact cal_Values); (focus exact hV); (focus rfl))
      | ((with_reducible apply je_call0); (focus rfl); (focus (decide +kernel)); (focus rfl); (focus exact cal_Values); (focus exact hV); (focus rfl))
      | ((with_reducible apply callE1); (focus rfl); (focus exact cal_next); (focus exact hN); (focus rfl))
      | ((with_reducible apply je_callE); (focus rfl); (focus (decide +kernel)); (focus rfl); (focus exact cal_next); (focus exact hN); (focus rfl))
      | exact True.intro
      | refine stp ?_
      | refine two ?_ ?_
      | refine allc fun c_ => ?_
      | (refine imp fun hc => ?_) <;> try (first | contradiction | (exfalso; omega) | (exfalso; exact absurd (of_dT hc) (by assumption)) | (exfalso; exact of_dF hc (by assumption)))
      | refine all fun v_ => ?_)
    all_goals clear fA_ fH_
    refine retv (VS.trans (vfreeze (t := 4) (eb := 8) rfl rfl (fun x => rfl) (by omega)) (VS.drop (List.nil_sublist _))) ?_
    ((with_reducible apply rq2); rfl; rfl; rfl)
    exact ret_eq rfl
end Go.Proofs.YtcikppldaepodaaGreatDoor
