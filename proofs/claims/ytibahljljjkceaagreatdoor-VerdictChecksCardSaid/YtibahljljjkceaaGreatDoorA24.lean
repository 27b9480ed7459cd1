/- A bundle of this claim's own texts: N3 Q2 Q3 N7. -/
import Derived.Shelf.Sort.Plain
import Derived.Shelf.Slices.In.SortNone
import Derived.Shelf.Slices.CompactI
import Derived.Test.YtibahljljjkceaaGreatDoorProg
import Derived.Test.YtibahljljjkceaaGreatDoorA2
import Derived.Test.YtibahljljjkceaaGreatDoorA13
import Derived.Test.YtibahljljjkceaaGreatDoorA15
import Derived.Test.YtibahljljjkceaaGreatDoorA20
import Derived.Test.YtibahljljjkceaaGreatDoorA22
import Derived.Test.YtibahljljjkceaaGreatDoorA23
set_option linter.unusedVariables false
set_option linter.unusedSimpArgs false
set_option maxRecDepth 100000
set_option maxHeartbeats 4000000
namespace Go.Proofs.YtibahljljjkceaaGreatDoor
open Go Go.Av Go.Sp
theorem Ql : Cal Tryz.prog 196 := Cal.of Tryz.func196 (by kernel_rfl) (by kernel_rfl)
theorem Mw : Cal Tryz.prog 191 := Cal.of Tryz.func191 (by kernel_rfl) (by kernel_rfl)
theorem H9 : Cal Tryz.prog 79 := Cal.of Tryz.func79 (by kernel_rfl) (by kernel_rfl)
theorem Zm (G : List (Nat × List D)) (xs : List Int) : AC Tryz.prog G 196 [.d (AK xs)] [] fun r h => ∃ q : Sl, r = .ret (.val q.v) ∧ h = [AM q.v 3 1 AW xs] := by
 refine AN (ts := [2]) Tryz.f196.ntmps Tryz.func196 rfl rfl rfl (by simp [Tryz.ntmps196]) fun W I => ?_
 refine Bs (t := 0) rfl fun hl => ?_
 repeat' (first
  | ((with_reducible apply Xw); (focus rfl); (focus rfl); (focus rfl); (focus rfl))
  | ((with_reducible apply (Ur AW)); (focus rfl); (focus (with_reducible exact ElC.h)); (focus rfl))
  | exact True.intro | refine AR ?_ | refine two ?_ ?_
  | (refine imp fun hc => ?_) <;> try exact cx hc
  | refine all fun v_ => ?_)
 · subst hc
   refine AH (VS.nilrow 3 1) ?_
   ((with_reducible apply rq1); rfl; rfl)
   exact ⟨Sl.nil, rfl, rfl⟩
 · refine Bi ?_
   ((with_reducible apply rq1); rfl; rfl)
   exact ⟨v_, rfl, rfl⟩
theorem after (m : Md) (hm : AU m = 0) (r : Ru) (hr : r ∈ m.rules) (vs : List Int) (g : InV m vs) : ACr Tryz.prog GP 191 [mdA m, ruA r, .d (AK vs)] (.tup [.d (AK ((Bw m r vs).getD [])), .bool (Bw m r vs).isSome]) := by
 have gr := Vl hm hr
 have hl6 := DQ (BM hm)
 have hln := g.len
 have hfew := gr.few
 have hG := Eval r.guard vs
 refine AN (ts := [6, 7]) Tryz.f191.ntmps Tryz.func191 rfl rfl rfl (by simp [Tryz.ntmps191]) fun W I => ?_
 have hb := Tj (l := r.guard) (vs := vs) (by rw [hln]; exact gr.guard) (g.lim hm)
 by_cases h0 : BP r.guard vs ≠ (1, 0)
 · rw [Jc h0]
   rcases hb with hb | hb | hb
   · rw [hb] at hG
     dsimp only at hG
     repeat' (first
      | refine ca EY (hG) ?_
      | exact True.intro | refine AD ?_ | refine two ?_ ?_ | refine AB fun c_ => ?_
      | (refine imp fun hc => ?_) <;> try exact cx1 hc
      | refine all fun v_ => ?_)
     refine AH (VS.trans (VS.drop (List.nil_sublist _)) (Cn (t := 6) 1 8 rfl)) ?_
     ((with_reducible apply rq2); rfl; rfl; rfl)
     exact AA rfl
   · rw [hb] at hG
     dsimp only at hG
     repeat' (first
      | refine ca EY (hG) ?_
      | exact True.intro | refine AD ?_ | refine two ?_ ?_ | refine AB fun c_ => ?_
      | (refine imp fun hc => ?_) <;> try exact cx1 hc
      | refine all fun v_ => ?_)
     refine AH (VS.trans (VS.drop (List.nil_sublist _)) (Cn (t := 6) 1 8 rfl)) ?_
     ((with_reducible apply rq2); rfl; rfl; rfl)
     exact AA rfl
   · exact absurd hb h0
 replace h0 := Decidable.not_not.1 h0
 rw [h0] at hG
 dsimp only at hG
 repeat' (first
  | refine ca EY (hG) ?_
  | refine cae Ql (Zm _ _) ?_
  | exact True.intro | refine AD ?_ | refine two ?_ ?_ | refine AB fun c_ => ?_
  | (refine imp fun hc => ?_) <;> try exact cx1 hc
  | refine all fun v_ => ?_)
 rename_i bm br _
 refine AG (X := Nat) (fun i => [(2, .d (AK vs)), (3, .val (.pointer (some ⟨bm, 0, none⟩))), (10, .val v_.v), (32, .d (Fk r.sets)), (33, .int r.sets.length), (34, .int i)]) (fun i => [AM v_.v 3 1 AW (B1 vs (r.sets.take i) vs), .cells bm 25 [.d (Aq m.vars), .d (Ad m.rules)]]) (fun i => i ≤ r.sets.length ∧ ∀ s ∈ r.sets.take i, HF m vs s) (fun i => r.sets.length - i) 0 ⟨Nat.zero_le _, fun s hs => (by cases hs)⟩ (VS.take (by exact AI) ?_) ?_
 · exact leD
 rintro i ⟨hi, hok⟩
 have hsl := Cz vs (r.sets.take i) vs
 by_cases hil : i < r.sets.length
 · have hs := List.getElem_mem hil
   obtain ⟨a1, a2, a3⟩ := gr.sets _ hs
   have a4 : r.sets[i].var.toNat < m.vars.length := by omega
   have hE := Eval r.sets[i].val vs
   have hx := fun n e (he : BP r.sets[i].val vs = (n, e)) => TN (m := m) (vs := vs) (s := r.sets[i]) (n := n) (e := e) he (by omega)
   have hn := Pf vs r.sets i hil
   generalize BP r.sets[i].val vs = p at hE hx hn
   obtain ⟨n, e⟩ := p
   have hx := hx n e rfl
   dsimp only at hE hn
   by_cases hgood : HF m vs r.sets[i]
   · have hx := hx.1 hgood
     obtain ⟨rfl, x1, x2⟩ := hx
     repeat' (first
      | refine ca EY (hE) ?_
      | exact True.intro | refine AD ?_ | refine two ?_ ?_ | refine AB fun c_ => ?_
      | (refine imp fun hc => ?_) <;> try exact cx1 hc
      | refine all fun v_ => ?_)
     refine ⟨i + 1, ⟨by omega, fun s h => ?_⟩, by omega, ?_⟩
     · rw [List.take_succ_eq_append_getElem hil] at h
       rcases List.mem_append.1 h with h | h
       · exact hok s h
       · rw [List.mem_singleton.1 h]; exact hgood
     · rw [hn]
       refine VS.take (by exact AI) ?_
       exact leD
   · rw [IZ hs hgood]
     by_cases x0 : e ≠ 0
     · repeat' (first
        | refine ca EY (hE) ?_
        | exact True.intro | refine AD ?_ | refine two ?_ ?_ | refine AB fun c_ => ?_
        | (refine imp fun hc => ?_) <;> try exact cx1 hc
        | refine all fun v_ => ?_)
       refine AH (VS.trans (VS.drop (List.nil_sublist _)) (Cn (t := 6) 1 8 rfl)) ?_
       ((with_reducible apply rq2); rfl; rfl; rfl)
       exact AA rfl
     replace x0 := Decidable.not_not.1 x0
     subst x0
     by_cases x1 : n < m.vars[r.sets[i].var.toNat].low
     · repeat' (first
        | refine ca EY (hE) ?_
        | exact True.intro | refine AD ?_ | refine two ?_ ?_ | refine AB fun c_ => ?_
        | (refine imp fun hc => ?_) <;> try exact cx1 hc
        | refine all fun v_ => ?_)
       refine AH (VS.trans (VS.drop (List.nil_sublist _)) (Cn (t := 6) 1 8 rfl)) ?_
       ((with_reducible apply rq2); rfl; rfl; rfl)
       exact AA rfl
     by_cases x2 : m.vars[r.sets[i].var.toNat].high < n
     · repeat' (first
        | refine ca EY (hE) ?_
        | exact True.intro | refine AD ?_ | refine two ?_ ?_ | refine AB fun c_ => ?_
        | (refine imp fun hc => ?_) <;> try exact cx1 hc
        | refine all fun v_ => ?_)
       refine AH (VS.trans (VS.drop (List.nil_sublist _)) (Cn (t := 6) 1 8 rfl)) ?_
       ((with_reducible apply rq2); rfl; rfl; rfl)
       exact AA rfl
     exact absurd (hx.2 ⟨rfl, by omega, by omega⟩) hgood
 obtain rfl : i = r.sets.length := by omega
 rw [List.take_length] at hok hsl ⊢
 rw [KD h0 hok]
 repeat' (first
  | exact True.intro | refine AD ?_ | refine two ?_ ?_ | refine AB fun c_ => ?_
  | (refine imp fun hc => ?_) <;> try exact cx1 hc
  | refine all fun v_ => ?_)
 refine AH (VS.trans (Bf (t := 6) (eb := 8) rfl rfl (fun x => rfl) (by omega)) (VS.drop (List.nil_sublist _))) ?_
 ((with_reducible apply rq2); rfl; rfl; rfl)
 exact AA rfl
end Go.Proofs.YtibahljljjkceaaGreatDoor
namespace Go.Proofs
open Go.Shelf
def Tryz.lays189_ren : Go.Shelf.Ren := ⟨fun | 189 => 168 | 125 => 198 | 257 => 197 | 128 => 213 | 129 => 214 | 294 => 205 | 295 => 206 | 296 => 207 | 297 => 208 | 298 => 209 | 299 => 210 | 216 => 202 | 300 => 211 | 301 => 212 | 328 => 217 | 329 => 218 | 330 => 219 | 331 => 220 | 332 => 221 | 215 => 216 | 343 => 222 | n => n, fun | 28 => 31 | 3 => 3 | 46 => 231 | 0 => 0 | 51 => 262 | 53 => 264 | 4 => 4 | 183 => 256 | 182 => 255 | 131 => 124 | 5 => 5 | 9 => 9 | 218 => 266 | 222 => 270 | 228 => 272 | 229 => 273 | n => n, fun | n => n⟩
theorem Tryz.lays189 : Go.Proofs.Lays.n189 Tryz.prog Tryz.lays189_ren := {
 mixed := by kernel_rfl
 f125 := Tryz.func198.trans (congrArg some (by kernel_rfl))
 f128 := Tryz.func213.trans (congrArg some (by kernel_rfl))
 f129 := Tryz.func214.trans (congrArg some (by kernel_rfl))
 f189 := Tryz.func168.trans (congrArg some (by kernel_rfl))
 f215 := Tryz.func216.trans (congrArg some (by kernel_rfl))
 f216 := Tryz.func202.trans (congrArg some (by kernel_rfl))
 f257 := Tryz.func197.trans (congrArg some (by kernel_rfl))
 f294 := Tryz.func205.trans (congrArg some (by kernel_rfl))
 f295 := Tryz.func206.trans (congrArg some (by kernel_rfl))
 f296 := Tryz.func207.trans (congrArg some (by kernel_rfl))
 f297 := Tryz.func208.trans (congrArg some (by kernel_rfl))
 f298 := Tryz.func209.trans (congrArg some (by kernel_rfl))
 f299 := Tryz.func210.trans (congrArg some (by kernel_rfl))
 f300 := Tryz.func211.trans (congrArg some (by kernel_rfl))
 f301 := Tryz.func212.trans (congrArg some (by kernel_rfl))
 f328 := Tryz.func217.trans (congrArg some (by kernel_rfl))
 f329 := Tryz.func218.trans (congrArg some (by kernel_rfl))
 f330 := Tryz.func219.trans (congrArg some (by kernel_rfl))
 f331 := Tryz.func220.trans (congrArg some (by kernel_rfl))
 f332 := Tryz.func221.trans (congrArg some (by kernel_rfl))
 f343 := Tryz.func222.trans (congrArg some (by kernel_rfl))
 t0 := Tryz.underlying0
 a0 := Tryz.isAgg0
 z0 := Tryz.sizeOf0
 v0 := Tryz.zeroValue0
 t3 := Tryz.underlying3
 a3 := Tryz.isAgg3
 z3 := Tryz.sizeOf3
 v3 := Tryz.zeroValue3
 t4 := Tryz.underlying4
 a4 := Tryz.isAgg4
 z4 := Tryz.sizeOf4
 v4 := Tryz.zeroValue4
 t5 := Tryz.underlying5
 a5 := Tryz.isAgg5
 z5 := Tryz.sizeOf5
 v5 := Tryz.zeroValue5
 t9 := Tryz.underlying9
 a9 := Tryz.isAgg9
 z9 := Tryz.sizeOf9
 v9 := Tryz.zeroValue9
 t28 := Tryz.underlying31
 a28 := Tryz.isAgg31
 z28 := Tryz.sizeOf31
 v28 := Tryz.zeroValue31
 t46 := Tryz.underlying231
 a46 := Tryz.isAgg231
 z46 := Tryz.sizeOf231
 v46 := Tryz.zeroValue231
 t51 := Tryz.underlying262
 a51 := Tryz.isAgg262
 z51 := Tryz.sizeOf262
 v51 := Tryz.zeroValue262
 t53 := Tryz.underlying264
 a53 := Tryz.isAgg264
 z53 := Tryz.sizeOf264
 v53 := Tryz.zeroValue264
 t131 := Tryz.underlying124
 a131 := Tryz.isAgg124
 z131 := Tryz.sizeOf124
 v131 := Tryz.zeroValue124
 t182 := Tryz.underlying255
 a182 := Tryz.isAgg255
 z182 := Tryz.sizeOf255
 v182 := Tryz.zeroValue255
 t183 := Tryz.underlying256
 a183 := Tryz.isAgg256
 z183 := Tryz.sizeOf256
 v183 := Tryz.zeroValue256
 t218 := Tryz.underlying266
 a218 := Tryz.isAgg266
 z218 := Tryz.sizeOf266
 v218 := Tryz.zeroValue266
 t222 := Tryz.underlying270
 a222 := Tryz.isAgg270
 z222 := Tryz.sizeOf270
 v222 := Tryz.zeroValue270
 t228 := Tryz.underlying272
 a228 := Tryz.isAgg272
 z228 := Tryz.sizeOf272
 v228 := Tryz.zeroValue272
 t229 := Tryz.underlying273
 a229 := Tryz.isAgg273
 z229 := Tryz.sizeOf273
 v229 := Tryz.zeroValue273 }
def Tryz.lays20_ren : Go.Shelf.Ren := ⟨fun | 20 => 192 | n => n, fun | 22 => 31 | 3 => 3 | 4 => 4 | 0 => 0 | n => n, fun | n => n⟩
theorem Tryz.lays20 : Go.Proofs.Lays2.n20 Tryz.prog Tryz.lays20_ren := {
 mixed := by kernel_rfl
 f20 := Tryz.func192.trans (congrArg some (by kernel_rfl))
 t0 := Tryz.underlying0
 a0 := Tryz.isAgg0
 z0 := Tryz.sizeOf0
 v0 := Tryz.zeroValue0
 t3 := Tryz.underlying3
 a3 := Tryz.isAgg3
 z3 := Tryz.sizeOf3
 v3 := Tryz.zeroValue3
 t4 := Tryz.underlying4
 a4 := Tryz.isAgg4
 z4 := Tryz.sizeOf4
 v4 := Tryz.zeroValue4
 t22 := Tryz.underlying31
 a22 := Tryz.isAgg31
 z22 := Tryz.sizeOf31
 v22 := Tryz.zeroValue31
 i3 := by kernel_rfl }
end Go.Proofs
namespace Go.Proofs.YtibahljljjkceaaGreatDoor
open Go Go.Av Go.Sp
theorem To : Cal Tryz.prog 168 := Cal.of Tryz.func168 (by kernel_rfl) (by kernel_rfl)
theorem OM : Cal Tryz.prog 192 := Cal.of Tryz.func192 (by kernel_rfl) (by kernel_rfl)
theorem aA (G : List (Nat × List D)) (q : Sl) (xs : List Int) (hb : xs.length < 4611686018427387904) : AC Tryz.prog G 168 [.val q.v] [AM q.v 3 1 AW xs] fun e h => e = .ret (.tup []) ∧ h = [AM q.v 3 1 AW (Dm xs)] :=
 Wq q xs hb (fun blk cap zs w h1 h2 h3 => Any.slices_Sort_int Tryz.lays189 blk 0 cap zs w h1 h2 h3) fun w => Any.slices_Sort_int_none Tryz.lays189 none 0 w
theorem CompactI (G : List (Nat × List D)) (q : Sl) (xs : List Int) (hb : xs.length ≤ 9223372036854775807) (hk : (Lib.compact xs).length ≤ xs.length) : AC Tryz.prog G 192 [.val q.v] [AM q.v 3 1 AW xs] fun e h => ∃ q' : Sl, e = .ret (.val q'.v) ∧ h = [AM q'.v 3 1 AW (Lib.compact xs)] :=
 Og q xs hb hk (fun blk cap zs w h1 h2 h3 => Any.slices_Compact_int Tryz.lays20 blk 0 cap zs w h1 h2 h3) fun w => Any.slices_Compact_int_empty Tryz.lays20 none 0 w
theorem Oi : Cal Tryz.prog 156 := Cal.of Tryz.func156 (by kernel_rfl) (by kernel_rfl)
theorem Vm : Cal Tryz.prog 108 := Cal.of Tryz.func108 (by kernel_rfl) (by kernel_rfl)
theorem Zx (G : List (Nat × List D)) (q : Sl) (xs : List Int) (hb : xs.length < 4611686018427387904) : AC Tryz.prog G 168 [.val q.v] [AM q.v 3 1 AW xs] fun e h => ∃ _ : Unit, e = .ret (.tup []) ∧ h = [AM q.v 3 1 AW (Dm xs)] :=
 (aA G q xs hb).mono fun _ _ h => ⟨(), h.1, h.2⟩
theorem Vb (G : List (Nat × List D)) (q : Sl) (xs : List Int) (hb : xs.length ≤ 1000000) : AC Tryz.prog G 192 [.val q.v] [AM q.v 3 1 AW xs] fun e h => ∃ q' : Sl, e = .ret (.val q'.v) ∧ h = [AM q'.v 3 1 AW (Lib.compact xs)] :=
 CompactI G q xs (by omega) (PG xs _ (Nat.le_refl _))
theorem next (m : Md) (hm : AU m = 0) (vs : List Int) (g : InV m vs) : AC Tryz.prog GP 156 [mdA m, .d (AK vs)] [] fun e h => ∃ q : Sl, e = .ret (.val q.v) ∧ h = [AM q.v 3 1 AW (Lib.compact (Dm (B2 m vs m.rules)))] := by
 have h12 := LC hm
 refine AN (ts := [4]) Tryz.f156.ntmps Tryz.func156 rfl rfl rfl (by simp [Tryz.ntmps156]) fun W I => ?_
 repeat' (first
  | exact True.intro | refine AD ?_ | refine two ?_ ?_ | refine AB fun c_ => ?_
  | (refine imp fun hc => ?_) <;> try exact cx1 hc
  | refine all fun v_ => ?_)
 obtain ⟨bm, rfl⟩ : ∃ x, x = v_ := ⟨v_, rfl⟩
 refine C4 (E := 3) (sz := 1) AW ?_
 refine AG (X := Nat × Sl) (fun y => [(1, .d (AK vs)), (2, .val (.pointer (some ⟨bm, 0, none⟩))), (5, .val y.2.v), (13, .d (Ad m.rules)), (14, .int m.rules.length), (15, .int y.1)]) (fun y => [AM y.2.v 3 1 AW (B2 m vs (m.rules.take y.1)), .cells bm 25 [.d (Aq m.vars), .d (Ad m.rules)]]) (fun y => y.1 ≤ m.rules.length) (fun y => m.rules.length - y.1) (0, Sl.nil) (Nat.zero_le _) (VS.take (by exact AI) ?_) ?_
 · exact leD
 rintro ⟨i, q⟩ hi
 dsimp only at hi ⊢
 have hln := LH m vs (m.rules.take i)
 rw [List.length_take] at hln
 by_cases hil : i < m.rules.length
 · have hr := List.getElem_mem hil
   have hA := after m hm _ hr vs g
   cases ho : Bw m m.rules[i] vs with
   | none =>
     have hs := KG hil ho
     rw [ho] at hA
     simp only [Option.getD_none, Option.isSome_none] at hA
     repeat' (first
      | refine ca Mw (hA) ?_
      | exact True.intro | refine AD ?_ | refine two ?_ ?_ | refine AB fun c_ => ?_
      | (refine imp fun hc => ?_) <;> try exact cx1 hc
      | refine all fun v_ => ?_)
     refine ⟨(i + 1, q), by dsimp only; omega, by dsimp only; omega, VS.take (by dsimp only; rw [hs]; exact AI) ?_⟩
     exact leD
   | some out =>
     have hs := J8 hil ho
     rw [ho] at hA
     simp only [Option.getD_some, Option.isSome_some] at hA
     repeat' (first
      | refine ca Mw (hA) ?_
      | refine ca Pa (Code _ _) ?_
      | exact True.intro | refine AD ?_ | refine two ?_ ?_ | refine AB fun c_ => ?_
      | (refine imp fun hc => ?_) <;> try exact cx1 hc
      | refine all fun v_ => ?_)
     refine ⟨(i + 1, v_), by dsimp only; omega, by dsimp only; omega, VS.take (by dsimp only; rw [hs]; exact AI) ?_⟩
     exact leD
 obtain rfl : i = m.rules.length := by omega
 rw [List.take_length] at hln ⊢
 generalize B2 m vs m.rules = cs at hln ⊢
 have hsl := Nb cs
 repeat' (first
  | ((with_reducible apply DW); (focus rfl); (focus exact To); (focus exact Zx GP q cs (by omega)); (focus exact Ap); (focus rfl); (focus exact C5))
  | ((with_reducible apply DW); (focus rfl); (focus exact OM); (focus exact Vb GP q (Dm cs) (by omega)); (focus exact Ap); (focus rfl); (focus exact C5))
  | exact True.intro | refine AD ?_ | refine two ?_ ?_ | refine AB fun c_ => ?_
  | (refine imp fun hc => ?_) <;> try exact cx1 hc
  | refine all fun v_ => ?_)
 refine AH (VS.drop (h' := [AM v_.v 3 1 AW (Lib.compact (Dm cs))]) (by exact Hs)) ?_
 ((with_reducible apply rq1); rfl; rfl)
 exact ⟨v_, rfl, rfl⟩
theorem Next (m : Md) (code : Int) : ACr Tryz.prog GP 108 [mdA m, .int code] (.tup [.d (AK (DV m code).1), .int (DV m code).2]) := by
 have hV := Vo m code
 refine AN (ts := [4, 5]) Tryz.f108.ntmps Tryz.func108 rfl rfl rfl (by simp [Tryz.ntmps108]) fun W I => ?_
 by_cases h1 : (BL m code).2 ≠ 0
 · rw [Ga h1]
   repeat' (first
    | refine ca EC (hV) ?_
    | exact True.intro | refine AD ?_ | refine two ?_ ?_ | refine AB fun c_ => ?_
    | (refine imp fun hc => ?_) <;> try exact cx1 hc
    | refine all fun v_ => ?_)
   refine AH (VS.trans (VS.drop (List.nil_sublist _)) (Cn (t := 4) 1 8 rfl)) ?_
   ((with_reducible apply rq2); rfl; rfl; rfl)
   exact AA rfl
 rw [JN (Decidable.not_not.1 h1)]
 obtain ⟨hm, c0, c1, hF⟩ := I8 (Decidable.not_not.1 h1)
 have g := InV.vals hm c0 c1
 rw [hF] at hV
 dsimp only at hV
 clear h1
 have hN := next m hm _ g
 have hr := Iy hm g
 obtain ⟨n, hn, n1, n2⟩ := DJ hm
 rw [hn] at hr ⊢
 rw [Ny n _ hr] at hN
 generalize B2 m (Bt m.vars code) m.rules = cs at hN hr ⊢
 have hul := Lu n cs
 rw [Int.toNat_natCast]
 by_cases hcs : cs = []
 · subst hcs
   rw [Vf] at hN hul
   rw [if_pos rfl]
   repeat' (first
    | refine ca EC (hV) ?_
    | refine cae Oi (hN) ?_
    | exact True.intro | refine AD ?_ | refine two ?_ ?_ | refine AB fun c_ => ?_
    | (refine imp fun hc => ?_) <;> try exact cx1 hc
    | refine all fun v_ => ?_)
   refine AH (VS.trans (Bf (t := 4) (eb := 8) rfl rfl (fun x => rfl) (by simp)) (VS.drop (List.nil_sublist _))) ?_
   ((with_reducible apply rq2); rfl; rfl; rfl)
   exact AA rfl
 · rw [if_neg hcs]
   have hu0 : 0 < (HI n cs).length := by
    obtain ⟨x, hx⟩ := List.exists_mem_of_ne_nil _ hcs
    exact List.length_pos_of_mem ((Ox hr x).2 hx)
   repeat' (first
    | refine ca EC (hV) ?_
    | refine cae Oi (hN) ?_
    | exact True.intro | refine AD ?_ | refine two ?_ ?_ | refine AB fun c_ => ?_
    | (refine imp fun hc => ?_) <;> try exact cx1 hc
    | refine all fun v_ => ?_)
   refine AH (VS.trans (Bf (t := 4) (eb := 8) rfl rfl (fun x => rfl) (by omega)) (VS.drop (List.nil_sublist _))) ?_
   ((with_reducible apply rq2); rfl; rfl; rfl)
   exact AA rfl
end Go.Proofs.YtibahljljjkceaaGreatDoor
