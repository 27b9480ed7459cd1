/- A bundle of this claim's own texts: M8 E11 Sf G9 Y1. -/
import Derived.Test.YtibahljljjkceaaGreatDoorA2
import Derived.Test.YtibahljljjkceaaGreatDoorA3
import Derived.Test.YtibahljljjkceaaGreatDoorA4
import Derived.Test.YtibahljljjkceaaGreatDoorA7
import Derived.Test.YtibahljljjkceaaGreatDoorA12
set_option linter.unusedVariables false
set_option linter.unusedSimpArgs false
set_option maxRecDepth 100000
set_option maxHeartbeats 4000000
namespace Go.Proofs.YtibahljljjkceaaGreatDoor
open Go Go.Av Go.Sp

theorem EC : Cal Tryz.prog 104 := Cal.of Tryz.func104 (by kernel_rfl) (by kernel_rfl)
theorem CQ : Cal Tryz.prog 81 := Cal.of Tryz.func81 (by kernel_rfl) (by kernel_rfl)
theorem Vo (m : Md) (code : Int) : ACr Tryz.prog GP 104 [mdA m, .int code] (.tup [.d (AK (BL m code).1), .int (BL m code).2]) := by
 refine AN (ts := [4, 5]) Tryz.f104.ntmps Tryz.func104 rfl rfl rfl (by simp [Tryz.ntmps104]) fun W I => ?_
 have ec := Count m
 by_cases c1 : AU m ≠ 0
 · rw [DX, if_pos c1] at ec
   dsimp only at ec
   repeat' (first
    | refine ca C0 (ec) ?_
    | exact True.intro | refine AD ?_ | refine two ?_ ?_ | refine AB fun c_ => ?_
    | (refine imp fun hc => ?_) <;> try exact cx1 hc
    | refine all fun v_ => ?_)
   refine AH (VS.trans (VS.drop (List.nil_sublist _)) (Cn (t := 4) 1 8 rfl)) ?_
   ((with_reducible apply rq2); rfl; rfl; rfl)
   exact AA (by rw [BL, if_pos c1]; rfl)
 have hv := BM (show AU m = 0 by omega)
 have g := Hk hv
 have hl6 := DQ hv
 have hall := g.all
 rw [DX, if_neg c1] at ec
 dsimp only at ec
 by_cases c2 : ¬ (0 ≤ code ∧ code < AS m.vars)
 · repeat' (first
    | refine ca C0 (ec) ?_
    | exact True.intro | refine AD ?_ | refine two ?_ ?_ | refine AB fun c_ => ?_
    | (refine imp fun hc => ?_) <;> try exact cx1 hc
    | refine all fun v_ => ?_)
   all_goals
    refine AH (VS.trans (VS.drop (List.nil_sublist _)) (Cn (t := 4) 1 8 rfl)) ?_
    ((with_reducible apply rq2); rfl; rfl; rfl)
    exact AA (by rw [BL, if_neg c1, if_neg c2]; rfl)
 replace c2 := Decidable.not_not.1 c2
 have hF : BL m code = (Bt m.vars code, 0) := by rw [BL, if_neg c1, if_pos c2]
 have hVl := Et m.vars code
 repeat' (first
  | refine ca C0 (ec) ?_
  | exact True.intro | refine AD ?_ | refine two ?_ ?_ | refine AB fun c_ => ?_
  | (refine imp fun hc => ?_) <;> try exact cx1 hc
  | refine all fun v_ => ?_)
 obtain ⟨bo, rfl⟩ : ∃ x, x = v_ := ⟨v_, rfl⟩
 obtain ⟨bm, rfl⟩ : ∃ x, x = v_ := ⟨v_, rfl⟩
 have e0 : code / AS (m.vars.drop m.vars.length) = code := by simp [AS]
 have e1 : Hc (Bt m.vars code) m.vars.length = List.replicate m.vars.length 0 := by simp [Hc, hVl]
 refine AG (X := Nat) (fun k => [(1, .int (code / AS (m.vars.drop k))), (2, .val (.pointer (some ⟨bm, 0, none⟩))), (8, .val (.slice (some ⟨bo, 0, none⟩) m.vars.length m.vars.length)), (9, .int ((k : Int) - 1))]) (fun k => [.cells bo 3 ((Hc (Bt m.vars code) k).map AV.int), .cells bm 25 [.d (Aq m.vars), .d (Ad m.rules)]]) (fun k => k ≤ m.vars.length) (fun k => k) m.vars.length (Nat.le_refl _) ?_ ?_
 · rw [e0, e1]
   refine VS.of_le ?_
   exact leD
 rintro k h1
 have hfl := NT (Bt m.vars code) k (by omega)
 by_cases hk : k = 0
 · subst hk
   repeat' (first
    | refine ca C0 (ec) ?_
    | exact True.intro | refine AD ?_ | refine two ?_ ?_ | refine AB fun c_ => ?_
    | (refine imp fun hc => ?_) <;> try exact cx1 hc
    | refine all fun v_ => ?_)
   refine AH (VS.trans (VS.drop (h' := [.cells bo 3 ((Hc (Bt m.vars code) 0).map AV.int)]) (by exact Hs)) (vfz (t := 4) (f := AW) (h1 := []) 1 8 rfl rfl rfl (Hw (Hc (Bt m.vars code) 0)) (by omega) (fun _ => rfl) (by omega) (by omega))) ?_
   ((with_reducible apply rq2); rfl; rfl; rfl)
   exact AA (by rw [hF]; simp [Hc] <;> rfl)
 obtain ⟨j, rfl⟩ : ∃ j, k = j + 1 := ⟨k - 1, by omega⟩
 have hj : j < m.vars.length := by omega
 have ej : (((j + 1 : Nat) : Int) - 1) = (j : Int) := by omega
 rw [ej]
 obtain ⟨d1, d2, d3, d4, d5⟩ := g.range _ (List.getElem_mem hj)
 have hq := (g.take (j + 1)).2.2
 have hsp : BJ m.vars[j] = m.vars[j].high - m.vars[j].low + 1 := rfl
 have q0 : 0 ≤ code / AS (m.vars.drop (j + 1)) := Int.ediv_nonneg c2.1 (by omega)
 have q1 : code / AS (m.vars.drop (j + 1)) ≤ code := Int.ediv_le_self _ c2.1
 have hn : code / AS (m.vars.drop (j + 1)) / (m.vars[j].high - m.vars[j].low + 1) = code / AS (m.vars.drop j) := by rw [XG _ _ _ (by omega), IY _ _ hj, hsp]
 have hV := Js m.vars code j (fun v hv => (g.span v hv).1) c2.1 c2.2 hj (by omega)
 have hset := Tp (Bt m.vars code) j (by omega)
 rw [hV, hsp] at hset
 generalize code / AS (m.vars.drop (j + 1)) = c at *
 have m0 := Int.emod_nonneg c (show m.vars[j].high - m.vars[j].low + 1 ≠ 0 by omega)
 have m1 := Int.emod_lt_of_pos c (show 0 < m.vars[j].high - m.vars[j].low + 1 by omega)
 repeat' (first
  | refine ca C0 (ec) ?_
  | exact True.intro | refine AD ?_ | refine two ?_ ?_ | refine AB fun c_ => ?_
  | (refine imp fun hc => ?_) <;> try exact cx1 hc
  | refine all fun v_ => ?_)
 refine ⟨j, by omega, by omega, ?_⟩
 rw [← hn, ← hset]
 refine VS.take (by exact AI) ?_
 exact leD
theorem PK (G : List (Nat × List D)) (m : Md) (code : Int) : ACr Tryz.prog G 81 [mdA m, .int code] (.tup [.d (AK (BL m code).1), .int (BL m code).2]) := by
 refine AN (ts := [4, 5]) Tryz.f81.ntmps Tryz.func81 rfl rfl rfl (by simp [Tryz.ntmps81]) fun W I => ?_
 have ec := Gi G m
 by_cases c1 : AU m ≠ 0
 · rw [DX, if_pos c1] at ec
   dsimp only at ec
   repeat' (first
    | refine ca A1 (ec) ?_
    | refine ca AL (In _ _ _ _) ?_
    | refine ca Bu (e3) ?_
    | exact True.intro | refine AD ?_ | refine two ?_ ?_ | refine AB fun c_ => ?_
    | (refine imp fun hc => ?_) <;> try exact cx1 hc
    | refine all fun v_ => ?_)
   refine AH (VS.trans (VS.drop (List.nil_sublist _)) (Cn (t := 4) 1 8 rfl)) ?_
   ((with_reducible apply rq2); rfl; rfl; rfl)
   exact AA (by rw [BL, if_pos c1]; rfl)
 have hv := BM (show AU m = 0 by omega)
 have g := Hk hv
 have hl6 := DQ hv
 have hall := g.all
 have hp1 := (g.take 0).2.2.1
 rw [List.drop_zero] at hp1
 rw [DX, if_neg c1] at ec
 dsimp only at ec
 by_cases c2 : ¬ (0 ≤ code ∧ code < AS m.vars)
 · repeat' (first
    | refine ca A1 (ec) ?_
    | refine ca AL (In _ _ _ _) ?_
    | refine ca Bu (e3) ?_
    | exact True.intro | refine AD ?_ | refine two ?_ ?_ | refine AB fun c_ => ?_
    | (refine imp fun hc => ?_) <;> try exact cx1 hc
    | refine all fun v_ => ?_)
   all_goals
    refine AH (VS.trans (VS.drop (List.nil_sublist _)) (Cn (t := 4) 1 8 rfl)) ?_
    ((with_reducible apply rq2); rfl; rfl; rfl)
    exact AA (by rw [BL, if_neg c1, if_neg c2]; rfl)
 replace c2 := Decidable.not_not.1 c2
 have hF : BL m code = (Bt m.vars code, 0) := by rw [BL, if_neg c1, if_pos c2]
 have hVl := Et m.vars code
 repeat' (first
  | refine ca A1 (ec) ?_
  | refine ca AL (In _ _ _ _) ?_
  | refine ca Bu (e3) ?_
  | exact True.intro | refine AD ?_ | refine two ?_ ?_ | refine AB fun c_ => ?_
  | (refine imp fun hc => ?_) <;> try exact cx1 hc
  | refine all fun v_ => ?_)
 obtain ⟨bm, rfl⟩ : ∃ x, x = v_ := ⟨v_, rfl⟩
 refine C4 (E := 3) (sz := 1) AW ?_
 refine AG (X := Nat × Int × List Int × Sl) (fun y => [(1, .int y.2.1), (2, .val (.pointer (some ⟨bm, 0, none⟩))), (8, .val y.2.2.2.v), (9, .int y.1)]) (fun y => [AM y.2.2.2.v 3 1 AW y.2.2.1, .cells bm 25 [.d (Aq m.vars), .d (Ad m.rules)]]) (fun y => y.1 ≤ m.vars.length ∧ 0 ≤ y.2.1 ∧ y.2.1 ≤ 4096 ∧ y.2.2.1.length = y.1 ∧ y.2.2.1 ++ Bt (m.vars.drop y.1) y.2.1 = Bt m.vars code) (fun y => m.vars.length - y.1) (0, code, [], Sl.nil) ⟨Nat.zero_le _, c2.1, by dsimp only; omega, rfl, rfl⟩ (VS.of_le ?_) ?_
 · exact leD
 rintro ⟨i, c, acc, q⟩ ⟨h1, h2, h3, h4, h5⟩
 dsimp only at h1 h2 h3 h4 h5 ⊢
 by_cases hi : i < m.vars.length
 · rw [UZ _ _ _ hi] at h5
   obtain ⟨d1, d2, d3, d4, d5⟩ := g.range _ (List.getElem_mem hi)
   have hq := (g.take (i + 1)).2.2
   have e3 := Ju G m g hl6 (i + 1) (by omega) i (by omega)
   generalize AS (m.vars.drop (i + 1)) = b at *
   have q0 : 0 ≤ c / b := Int.ediv_nonneg h2 (by omega)
   have q1 : c / b ≤ c := Int.ediv_le_self _ h2
   have m0 := Int.emod_nonneg c (show b ≠ 0 by omega)
   have m1 := Int.emod_lt_of_pos c (show 0 < b by omega)
   repeat' (first
    | refine ca A1 (ec) ?_
    | refine ca AL (In _ _ _ _) ?_
    | refine ca Bu (e3) ?_
    | exact True.intro | refine CJ ?_ | refine two ?_ ?_ | refine AB fun c_ => ?_
    | (refine imp fun hc => ?_) <;> try exact cx hc
    | refine all fun v_ => ?_)
   refine ⟨?_⟩
   refine B7 [AM q.v 3 1 AW acc] mixed rfl (by (repeat ((with_reducible apply Hd.cons); (focus rfl))); exact Hd.nil) (by (repeat (with_reducible apply Ax)); exact len_nil) (by decide +kernel) (by exact Ap) ?_
   repeat' (first
    | refine ca A1 (ec) ?_
    | refine ca AL (In _ _ _ _) ?_
    | refine ca Bu (e3) ?_
    | exact True.intro | refine AD ?_ | refine two ?_ ?_ | refine AB fun c_ => ?_
    | (refine imp fun hc => ?_) <;> try exact cx1 hc
    | refine all fun v_ => ?_)
   refine ⟨(i + 1, c % b, acc ++ [m.vars[i].low + c / b], v_), ⟨by dsimp only; omega, m0, by dsimp only; omega, by simp [h4], by simpa using h5⟩, by dsimp only; omega, ?_⟩
   refine VS.take (by exact AI) ?_
   exact leD
 obtain rfl : i = m.vars.length := by omega
 rw [List.drop_length, Bt, List.append_nil] at h5
 subst h5
 repeat' (first
  | refine ca A1 (ec) ?_
  | refine ca AL (In _ _ _ _) ?_
  | refine ca Bu (e3) ?_
  | exact True.intro | refine AD ?_ | refine two ?_ ?_ | refine AB fun c_ => ?_
  | (refine imp fun hc => ?_) <;> try exact cx1 hc
  | refine all fun v_ => ?_)
 refine AH (VS.trans (Bf (t := 4) (eb := 8) rfl rfl (fun x => rfl) (by omega)) (VS.drop (List.nil_sublist _))) ?_
 ((with_reducible apply rq2); rfl; rfl; rfl)
 exact AA (by rw [hF])
end Go.Proofs.YtibahljljjkceaaGreatDoor
namespace Go.Av
open Go Go.Instr
section
variable {P : Program} {G : List (Nat × List D)} {ρ : Env} {h : H} {dst : Option Tmp} {ty : TypeId} {pos : String} {after : Array Edge} {g : Option (Nat × Bool)}
theorem Dj {α β : Type} [DecidableEq α] {kd : TypeDesc} {kv : α → Value} {vv : β → Value} (K : Jj kd kv) {T KT ET : TypeId} {x y : Operand} {b : Nat} {ps : List (α × β)} {a : α}
 (hx : evO ρ x = some (.val (.map (some b)))) (hy : evO ρ y = some (.val (kv a))) (hT : P.underlying T = some (.map KT ET)) (hK : P.underlying KT = some kd) (hm : Ent.raw b (BE (Af kv vv ps)) ∈ h) {c : β} (hc : getM ps a = some c) :
 Pure P G ⟨dst, .lookup T x y false, ty, pos, after, g⟩ ρ h (.val (vv c)) := by
 intro cx I n ac w _ hok hs
 have e1 := AP (hs.ev x) (AF hx)
 have e2 := AP (hs.ev y) (AF hy)
 have hb : w.heap[b]? = some (BE (Af kv vv ps)) := hok.ent _ hm
 refine ⟨vv c, rfl, fun w' hw' => ?_⟩
 have hb' : w'.heap[b]? = some (BE (Af kv vv ps)) := (hw'.own b (Dz hm rfl)).trans hb
 have hobj : (getObj b).run P w' = .ok (.map (Bl (Af kv vv ps) 0).toArray (Af kv vv ps).length) w' := by simp [getObj, Sem.run, hb', BE]
 obtain ⟨r, hr1, hr2⟩ := P8 (vv := vv) K hK ps a w'
 simp only [execOp, e1, e2, lookup]
 rw [hc] at hr2
 cases r with
 | none => cases hr2
 | some p =>
   obtain ⟨j, v⟩ := p
   obtain rfl : v = vv c := by simpa using hr2
   simp [run_underlying hT, hobj, K.easy P KT _ a w' hK, hr1]
end
section
variable {k : Kx} {Q : Exit → Env → H → Prop} {ρ : Env} {h h' : H} {ops : Array Oper} {l : List Oper} {d : Nat} {ty : TypeId} {pos : String} {after : Array Edge} {g : Option (Nat × Bool)}
-- an entry of a literal
theorem FM {α β : Type} [DecidableEq α] {kd : TypeDesc} {kv : α → Value} {vv : β → Value} (K : Jj kd kv) {T KT ET : TypeId} {x y u : Operand} {r : AV} {b : Nat} {ps : List (α × β)} {a : α} {c : β}
 (hx : evO ρ x = some (.val (.map (some b)))) (hy : evO ρ y = some (.val (kv a))) (hv : evO ρ u = some r) (hr : ∀ w I v, AV.rel w I r v → v = vv c) (hT : k.P.underlying T = some (.map KT ET)) (hK : k.P.underlying KT = some kd)
 (hu : Upd (.raw b (BE (Af kv vv ps))) (.raw b (BE (Af kv vv (ps ++ [(a, c)])))) h h') (hno : getM ps a = none)
 (hj : JL k ops l Q ρ h') : JL k ops (⟨none, .insert T x y u, ty, pos, after, none⟩ :: l) Q ρ h := by
 obtain ⟨h1, h2, rfl, rfl⟩ := hu.split
 refine Fv rfl rfl fun I ac w k1 k2 => ?_
 have e1 := AP (k2.ev x) (AF hx)
 have e2 := AP (k2.ev y) (AF hy)
 have e3 := hr _ _ _ (BY (k2.ev u) (AF hv))
 have hb : w.heap[b]? = some (BE (Af kv vv ps)) := k1.ent (.raw b (BE (Af kv vv ps))) (by simp)
 have hfind := Kf (vv := vv) K a ps 0 0 (getM_none.1 hno)
 have hnew : Obj.map (Bl (Af kv vv ps) 0 ++ [(⟨kv a, vv c, (Af kv vv ps).length⟩ : MapEntry)]).toArray ((Af kv vv ps).length + 1) = BE (Af kv vv (ps ++ [(a, c)])) := by
  have e : Af kv vv (ps ++ [(a, c)]) = Af kv vv ps ++ [(kv a, vv c)] := by simp [Af]
  unfold BE
  rw [e, Er]
  simp [Bl]
 obtain ⟨g1, g2⟩ := k1.write (w' := { w with heap := w.heap.setIfInBounds b (BE (Af kv vv (ps ++ [(a, c)]))) }) (e' := .raw b (BE (Af kv vv (ps ++ [(a, c)])))) (b := b) rfl rfl rfl rfl rfl (by simp)
  (fun x hx => by simp [Array.getElem?_setIfInBounds, Ne.symm hx]) (by
   have hlt := (Array.getElem?_eq_some_iff.1 hb).1
   show _ = _
   simp [Array.getElem?_setIfInBounds, hlt])
 refine ⟨{ w with heap := w.heap.setIfInBounds b (BE (Af kv vv (ps ++ [(a, c)]))) }, I, h1 ++ .raw b (BE (Af kv vv (ps ++ [(a, c)]))) :: h2, ?_, g1, k2.mono g2 (fun _ h => h), hj⟩
 have hobj : (getObj b).run k.P w = .ok (.map (Bl (Af kv vv ps) 0).toArray (Af kv vv ps).length) w := by simp [getObj, Sem.run, hb, BE]
 have hset := K7 (P := k.P) (w := w) (r := b) (BE (Af kv vv (ps ++ [(a, c)]))) (es := (Bl (Af kv vv ps) 0).toArray) (clock := (Af kv vv ps).length) hb
 simp only [execOp, e1, e2, e3, mapUpdate]
 simp [run_underlying hT, hobj, K.easy k.P KT false a w hK, findKey, run_underlying hK, hfind, hnew, hset]
theorem DN {α β : Type} (kv : α → Value) (vv : β → Value) {T : TypeId} (hd : Nat.blt d k.n = true) (hj : All fun b : Nat => JL k ops l Q ((d, .val (.map (some b))) :: ρ) (.raw b (BE (Af kv vv [])) :: h)) : JL k ops (⟨some d, .makeMap T none, ty, pos, after, none⟩ :: l) Q ρ h := Va hd hj
end
end Go.Av
namespace Go.Sp
open Go.Av

def Ay (l : List Fo) : Nat → Nat
 | 0 => 0
 | i + 1 => Ay l i + if Ao (AQ l i) then 1 else 0
def MX (claim : Int) (j : Nat) : Bool := decide (claim / 2 ^ j % 2 = 1)
def FQ (l : List Fo) (i : Nat) : Int := (l[i]?.map Fo.val).getD 0
theorem Du (l : List Fo) (i : Nat) (hi : i < l.length) : FQ l i = l[i].val := by unfold FQ; rw [List.getElem?_eq_getElem hi]; rfl
def second (l : List Fo) (i : Nat) : Nat := (AJ l (i + 1 : Nat)).1.toNat
def stepT (l : List Fo) (x : List Bool) (c : Int) (i : Nat) (a b : Bool) : Bool :=
 if AQ l i = 13 then (x[(FQ l i).toNat]?).getD false
 else if AQ l i = 11 then true
 else if AQ l i = 12 then false
 else if AQ l i = 10 then !a
 else if AQ l i = 8 then a && b
 else if AQ l i = 9 then a || b
 else MX c (Ay l i)
def tv (l : List Fo) (x : List Bool) (c : Int) : Nat → Nat → Bool
 | 0, _ => false
 | m + 1, i => if i < l.length then stepT l x c i (tv l x c m (i + 1)) (if i < second l i then tv l x c m (second l i) else false) else false
def tAt (l : List Fo) (x : List Bool) (c : Int) (i : Nat) : Bool := tv l x c (l.length - i) i
theorem J6 (l : List Fo) (x : List Bool) (c : Int) : ∀ (m i : Nat), l.length ≤ i + m → tv l x c m i = tAt l x c i := by
 intro m
 induction m with
 | zero => intro i h; unfold tAt; rw [show l.length - i = 0 by omega]
 | succ m ih =>
   intro i h
   unfold tAt
   by_cases hi : i < l.length
   · obtain ⟨q, hq⟩ : ∃ q, l.length - i = q + 1 := ⟨l.length - i - 1, by omega⟩
     have e : ∀ j, i < j → tv l x c m j = tv l x c q j := fun j hj => by
      rw [ih j (by omega)]
      by_cases hjl : j < l.length
      · have hqm : q ≤ m := by omega
        by_cases hqm' : q = m
        · subst hqm'; exact (ih j (by omega)).symm
        · clear ih
          -- fewer steps are still enough
          have : ∀ (m q j : Nat), l.length ≤ j + q → q ≤ m → tv l x c q j = tv l x c m j := by
           intro m
           induction m with
           | zero => intro q j h1 h2; rw [show q = 0 by omega]
           | succ m ih' =>
             intro q j h1 h2
             cases q with
             | zero =>
               simp only [tv]
               rw [if_neg (by omega)]
             | succ q =>
               simp only [tv]
               by_cases hjl : j < l.length
               · rw [if_pos hjl, if_pos hjl, ih' q (j + 1) (by omega) (by omega)]
                 by_cases hs : j < second l j
                 · rw [if_pos hs, if_pos hs, ih' q (second l j) (by omega) (by omega)]
                 · rw [if_neg hs, if_neg hs]
               · rw [if_neg hjl, if_neg hjl]
          unfold tAt
          exact this q (l.length - j) j (by omega) (by omega)
      · unfold tAt
        rw [show l.length - j = 0 by omega]
        cases q with
        | zero => rfl
        | succ q => simp only [tv]; rw [if_neg hjl]
     rw [hq]
     simp only [tv]
     rw [if_pos hi, if_pos hi, e (i + 1) (by omega)]
     by_cases hs : i < second l i
     · rw [if_pos hs, if_pos hs, e _ hs]
     · rw [if_neg hs, if_neg hs]
   · rw [show l.length - i = 0 by omega]
     simp only [tv]
     rw [if_neg hi]
theorem Qa (l : List Fo) (x : List Bool) (c : Int) (i : Nat) (hi : i < l.length) : tAt l x c i = stepT l x c i (tAt l x c (i + 1)) (if i < second l i then tAt l x c (second l i) else false) := by
 rw [← J6 l x c (l.length + 1) i (by omega)]
 simp only [tv]
 rw [if_pos hi, J6 l x c l.length (i + 1) (by omega)]
 by_cases hs : i < second l i
 · rw [if_pos hs, if_pos hs, J6 l x c l.length (second l i) (by omega)]
 · rw [if_neg hs, if_neg hs]
theorem EB (l : List Fo) (i : Nat) (hi : i < l.length) : Ay l (i + 1) = Ay l i + if Ao l[i].kind then 1 else 0 := by
 simp only [Ay, An l i hi]
theorem E0 (l : List Fo) : ∀ (m i : Nat), Ay l i ≤ Ay l (i + m)
 | 0, i => Nat.le_refl _
 | m + 1, i => by have := E0 l m i; rw [← Nat.add_assoc]; simp only [Ay]; omega
theorem IL (l : List Fo) : ∀ (m i : Nat), l.length = i + m → (Bq (l.drop i) i).length + Ay l i = Ay l l.length
 | 0, i, h => by rw [Gs l i (by omega), h]; simp
 | m + 1, i, h => by
   have ih := IL l m (i + 1) (by omega)
   rw [GZ l i (by omega)]
   rw [EB l i (by omega)] at ih
   by_cases hc : Ao l[i].kind
   · rw [if_pos hc] at ih ⊢; simp only [List.length_cons]; omega
   · rw [if_neg hc] at ih ⊢; omega
theorem K3 (l : List Fo) : ∀ (m i : Nat), l.length = i + m → ∀ (j : Nat) (p : Int), (Bq (l.drop i) i)[j]? = some p → ∃ q : Nat, p = q ∧ i ≤ q ∧ q < l.length ∧ Ao (AQ l q) ∧ Ay l q = Ay l i + j
 | 0, i, h, j, p, hp => by rw [Gs l i (by omega)] at hp; simp at hp
 | m + 1, i, h, j, p, hp => by
   have ih := K3 l m (i + 1) (by omega)
   rw [GZ l i (by omega)] at hp
   have hr := EB l i (by omega)
   by_cases hc : Ao l[i].kind
   · rw [if_pos hc] at hp hr
     cases j with
     | zero =>
       simp at hp
       exact ⟨i, hp.symm, Nat.le_refl _, by omega, by rw [An l i (by omega)]; exact hc, rfl⟩
     | succ j =>
       obtain ⟨q, h1, h2, h3, h4, h5⟩ := ih j p (by simpa using hp)
       exact ⟨q, h1, by omega, h3, h4, by omega⟩
   · rw [if_neg hc] at hp hr
     obtain ⟨q, h1, h2, h3, h4, h5⟩ := ih j p hp
     exact ⟨q, h1, by omega, h3, h4, by omega⟩
theorem HQ (l : List Fo) (q : Nat) (hq : q < l.length) (ha : Ao (AQ l q)) : ∀ (m i : Nat), l.length = i + m → i ≤ q → (Bq (l.drop i) i)[Ay l q - Ay l i]? = some (q : Int)
 | 0, i, h, hi => by omega
 | m + 1, i, h, hi => by
   rw [GZ l i (by omega)]
   have hr := EB l i (by omega)
   by_cases hiq : i = q
   · subst hiq
     rw [An l i hq] at ha
     rw [if_pos ha, Nat.sub_self]; rfl
   · have ih := HQ l q hq ha m (i + 1) (by omega) (by omega)
     have hm := E0 l (q - (i + 1)) (i + 1)
     rw [show i + 1 + (q - (i + 1)) = q by omega] at hm
     by_cases hc : Ao l[i].kind
     · rw [if_pos hc] at hr ⊢
       have e : Ay l q - Ay l i = (Ay l q - Ay l (i + 1)) + 1 := by omega
       rw [e]; simpa using ih
     · rw [if_neg hc] at hr ⊢
       rw [show Ay l q - Ay l i = Ay l q - Ay l (i + 1) by omega]; exact ih
theorem QF {k v p : Int} (h : G0 k v p = 0) : 8 ≤ k ∧ (k = 13 → 0 ≤ v ∧ v < p) := by
 unfold G0 at h
 by_cases h1 : k < 8
 · rw [if_pos h1] at h; exact absurd h (by decide)
 rw [if_neg h1] at h
 by_cases h2 : (k = 13 ∧ (v < 0 ∨ p ≤ v)) ∨ (k ≠ 13 ∧ v ≠ 0)
 · rw [if_pos h2] at h; exact absurd h (by decide)
 omega
theorem QD (l : List Fo) (p : Int) : ∀ (m i n : Nat), l.length = i + m → II (l.drop i) p n = 0 → (∀ (q : Nat) (hq : q < l.length), i ≤ q → G0 l[q].kind l[q].val p = 0) ∧ n + (Ay l l.length - Ay l i) ≤ 6
 | 0, i, n, h, he => by
   rw [Jz l i (by omega)] at he
   refine ⟨fun q hq hi => by omega, ?_⟩
   rw [h, Nat.add_zero, Nat.sub_self]
   by_cases h6 : 6 < n
   · rw [if_pos h6] at he; exact absurd he (by decide)
   · omega
 | m + 1, i, n, h, he => by
   rw [LZ l i (by omega)] at he
   by_cases h1 : G0 l[i].kind l[i].val p ≠ 0
   · rw [if_pos h1] at he; exact absurd he h1
   rw [if_neg h1] at he
   obtain ⟨g1, g2⟩ := QD l p m (i + 1) _ (by omega) he
   have hr := EB l i (by omega)
   have hm := E0 l m (i + 1)
   rw [show i + 1 + m = l.length by omega] at hm
   refine ⟨fun q hq hi => ?_, ?_⟩
   · by_cases hqi : q = i
     · subst hqi; simpa using h1
     · exact g1 q hq (by omega)
   · by_cases hc : Ao l[i].kind
     · rw [if_pos hc] at g2 hr; omega
     · rw [if_neg hc] at g2 hr; omega
theorem VO {l : List Fo} {p : Int} (h : DH l p = 0) : 0 ≤ p ∧ p ≤ 6 ∧ (Ah l).2 = 0 ∧ (∀ (q : Nat) (hq : q < l.length), G0 l[q].kind l[q].val p = 0) ∧ Ay l l.length ≤ 6 := by
 unfold DH at h
 by_cases h1 : p < 0 ∨ 6 < p
 · rw [if_pos h1] at h; exact absurd h (by decide)
 rw [if_neg h1] at h
 by_cases h2 : (Ah l).2 ≠ 0
 · rw [if_pos h2] at h; exact absurd h h2
 rw [if_neg h2] at h
 obtain ⟨g1, g2⟩ := QD l p l.length 0 0 (by omega) (by simpa using h)
 refine ⟨by omega, by omega, by simpa using h2, fun q hq => g1 q hq (Nat.zero_le _), ?_⟩
 simp only [Ay] at g2
 omega
theorem Lv {l : List Fo} (h : (Ah l).2 = 0) : ∀ (i : Nat) (_ : i < l.length), (AJ l i).2 = 0 := by
 obtain ⟨_, _, hend, _, _⟩ := Bp (l := l) (es := (Ah l).1) (Prod.ext rfl h)
 intro i hi
 exact (Dl l l.length 0 1 l.length (by omega) (by omega) (by unfold AJ at hend; exact hend) i (by omega) (by omega)).1
theorem NH {l : List Fo} {i : Nat} (hi : i < l.length) (h : (AJ l i).2 = 0) : (partsOf l[i].kind).2 = 0 := by
 have he := FT l i hi
 by_cases h1 : (partsOf l[i].kind).2 ≠ 0
 · rw [if_pos h1] at he; rw [he] at h; exact absurd h h1
 · simpa using h1
theorem Cu {l : List Fo} {i : Nat} (hi : i < l.length) (h : (AJ l i).2 = 0) (hp : 1 ≤ (partsOf l[i].kind).1) : i + 1 < l.length ∧ (AJ l (i + 1 : Nat)).2 = 0 ∧ i + 1 < second l i ∧ (AJ l (i + 1 : Nat)).1 = (second l i : Nat) ∧ second l i ≤ l.length := by
 obtain ⟨q1, q2, q3, q4⟩ := (Dw.start hi h).next (by omega)
 have hb := Al l i h
 have hb1 := Al l (i + 1) q1
 unfold second
 refine ⟨by omega, q1, by omega, by omega, by omega⟩
theorem DS {l : List Fo} {i : Nat} (hi : i < l.length) (h : (AJ l i).2 = 0) (hp : (partsOf l[i].kind).1 = 2) : second l i < l.length ∧ (AJ l (second l i : Nat)).2 = 0 := by
 obtain ⟨q1, q2, q3, q4⟩ := (Dw.start hi h).next (by omega)
 obtain ⟨r1, r2, r3, r4⟩ := q4.next (by omega)
 have hb := Al l i h
 unfold second
 exact ⟨by omega, r1⟩
structure Hg (l : List Fo) (p : Int) : Prop where
 h60 : l.length ≤ 60
 pos : 0 < l.length
 well : ∀ (i : Nat) (_ : i < l.length), (AJ l i).2 = 0
 kind : ∀ (i : Nat) (hi : i < l.length), 8 ≤ l[i].kind ∧ l[i].kind ≤ 18
 prop : ∀ (i : Nat) (hi : i < l.length), l[i].kind = 13 → 0 ≤ l[i].val ∧ l[i].val < p
 ah : Ay l l.length ≤ 6
 ends : (Ah l).2 = 0
theorem Eu {l : List Fo} {p : Int} (h : DH l p = 0) : Hg l p := by
 obtain ⟨h1, h2, h3, h4, h5⟩ := VO h
 obtain ⟨k1, k2, _, _, _⟩ := Bp (l := l) (es := (Ah l).1) (Prod.ext rfl h3)
 have hw := Lv h3
 refine ⟨k1, k2, hw, fun i hi => ⟨(QF (h4 i hi)).1, ?_⟩, fun i hi => (QF (h4 i hi)).2, h5, h3⟩
 have hk := NH hi (hw i hi)
 by_cases h18 : 18 < l[i].kind
 · rw [Ck _ (.inr h18)] at hk; exact absurd hk (by decide)
 · omega
theorem DI {l : List Fo} : (Bq l 0).length = Ay l l.length := by
 have := IL l l.length 0 (by omega)
 simpa [Ay] using this
theorem NN {l : List Fo} {i : Nat} (hi : i ≤ l.length) : Ay l i ≤ Ay l l.length := by
 have := E0 l (l.length - i) i
 rwa [show i + (l.length - i) = l.length by omega] at this
theorem Ot {k : Int} (h : 8 ≤ k ∧ k ≤ 18) : k = 8 ∨ k = 9 ∨ k = 10 ∨ k = 11 ∨ k = 12 ∨ k = 13 ∨ k = 14 ∨ k = 15 ∨ k = 16 ∨ k = 17 ∨ k = 18 := by omega
def A0 (l : List Fo) (x : List Bool) (c : Int) : List Bool × Int :=
 if (AZ l x.length).2 ≠ 0 then ([], (AZ l x.length).2)
 else if c < 0 ∨ 2 ^ (AZ l x.length).1.length ≤ c then ([], 2)
 else ((List.range l.length).map (tAt l x c), 0)
theorem Hj {l : List Fo} {p : Int} {ps : List Int} (h : AZ l p = (ps, 0)) : DH l p = 0 ∧ ps = Bq l 0 := by
 unfold AZ at h
 by_cases h1 : DH l p ≠ 0
 · rw [if_pos h1] at h; simp at h; exact absurd h.2 h1
 · rw [if_neg h1] at h; simp at h; exact ⟨by simpa using h1, h.symm⟩
structure Fj (l : List Fo) (x : List Bool) (c : Int) (i : Nat) (out : List Bool) : Prop where
 len : out.length = l.length
 done : ∀ j, i ≤ j → j < l.length → out[j]? = some (tAt l x c j)
 rest : ∀ j, j < i → j < l.length → out[j]? = some false
theorem Fj.start (l : List Fo) (x : List Bool) (c : Int) : Fj l x c l.length (List.replicate l.length false) :=
 ⟨by simp, fun j h1 h2 => by omega, fun j _ h2 => by simp [h2]⟩
theorem Fj.next {l : List Fo} {x : List Bool} {c : Int} {i : Nat} {out : List Bool} {v : Bool} (d : Fj l x c (i + 1) out) (hi : i < l.length) (hv : v = tAt l x c i) : Fj l x c i (out.set i v) := by
 refine ⟨by rw [List.length_set]; exact d.len, fun j h1 h2 => ?_, fun j h1 h2 => ?_⟩
 · by_cases hj : i = j
   · subst hj; rw [List.getElem?_set_self (by rw [d.len]; exact hi), hv]
   · rw [List.getElem?_set_ne hj]; exact d.done j (by omega) h2
 · rw [List.getElem?_set_ne (by omega)]; exact d.rest j (by omega) h2
theorem Fj.no {l : List Fo} {x : List Bool} {c : Int} {i : Nat} {out : List Bool} (d : Fj l x c (i + 1) out) (hi : i < l.length) (hv : tAt l x c i = false) : Fj l x c i out := by
 refine ⟨d.len, fun j h1 h2 => ?_, fun j h1 h2 => d.rest j (by omega) h2⟩
 by_cases hj : i = j
 · subst hj; rw [d.rest i (by omega) hi, hv]
 · exact d.done j (by omega) h2
theorem Fj.fin {l : List Fo} {x : List Bool} {c : Int} {out : List Bool} (d : Fj l x c 0 out) : out = (List.range l.length).map (tAt l x c) := by
 apply List.ext_getElem?
 intro j
 by_cases hj : j < l.length
 · rw [d.done j (Nat.zero_le _) hj]; simp [hj]
 · rw [List.getElem?_eq_none (by rw [d.len]; omega), List.getElem?_eq_none (by simp; omega)]
theorem Fj.get {l : List Fo} {x : List Bool} {c : Int} {i : Nat} {out : List Bool} (d : Fj l x c i out) {j : Nat} (h1 : i ≤ j) (h2 : j < l.length) (h3 : j < out.length) : out[j] = tAt l x c j := by
 have := d.done j h1 h2
 rw [List.getElem?_eq_getElem h3] at this
 exact Option.some.inj this
open Go Go.Av

def AY (n : Int) : Prop := -1000000 ≤ n ∧ n ≤ 1000000
instance (n : Int) : Decidable (AY n) := by unfold AY; infer_instance
def ovr (n : Int) : Option Int := if AY n then some n else none
def opV (k v : Int) (env : List Int) (a b : Int) : Int :=
 if k = 1 then v else if k = 2 then (env[v.toNat]?).getD 0 else if k = 3 then a + b else if k = 4 then a - b else if k = 5 then a * b
 else if k = 6 then (if a = b then 1 else 0) else if k = 7 then (if a < b then 1 else 0) else if k = 8 then (if a = 1 ∧ b = 1 then 1 else 0)
 else if k = 9 then (if a = 1 ∨ b = 1 then 1 else 0) else if k = 10 then (if a = 0 then 1 else 0) else if k = 11 then 1 else 0
abbrev np (l : List Fo) (i : Nat) : Int := (partsOf (AQ l i)).1
def KK (l : List Fo) (env : List Int) (i : Nat) (a b : Option Int) : Option Int :=
 (if 1 ≤ np l i then a else some 0).bind fun x => (if 2 ≤ np l i then b else some 0).bind fun y => ovr (opV (AQ l i) (FQ l i) env x y)
def evm (l : List Fo) (env : List Int) : Nat → Nat → Option Int
 | 0, _ => none
 | m + 1, i => if i < l.length then KK l env i (evm l env m (i + 1)) (if i < second l i then evm l env m (second l i) else none) else none
def Bc (l : List Fo) (env : List Int) (i : Nat) : Option Int := evm l env (l.length - i) i
theorem Ky (l : List Fo) (env : List Int) : ∀ (m i : Nat), l.length ≤ i + m → evm l env m i = Bc l env i := by
 intro m
 induction m using Nat.strongRecOn with
 | _ m ih =>
 intro i h
 unfold Bc
 by_cases hi : i < l.length
 · obtain ⟨m', rfl⟩ : ∃ m', m = m' + 1 := ⟨m - 1, by omega⟩
   obtain ⟨k, hk⟩ : ∃ k, l.length - i = k + 1 := ⟨l.length - i - 1, by omega⟩
   rw [hk]
   have e : ∀ j, i < j → evm l env m' j = evm l env k j := fun j hj => by
    rw [ih m' (by omega) j (by omega)]
    by_cases hkm : k < m' + 1
    · rw [ih k hkm j (by omega)]
    · omega
   simp only [evm, if_pos hi]
   rw [e (i + 1) (by omega)]
   by_cases h2 : i < second l i
   · rw [if_pos h2, if_pos h2, e _ h2]
   · rw [if_neg h2, if_neg h2]
 · rw [show l.length - i = 0 by omega]
   cases m with
   | zero => rfl
   | succ m => simp only [evm, if_neg hi]
theorem Gt (l : List Fo) (env : List Int) (i : Nat) (hi : i < l.length) : Bc l env i = KK l env i (Bc l env (i + 1)) (if i < second l i then Bc l env (second l i) else none) := by
 rw [← Ky l env (l.length - (i + 1)) (i + 1) (by omega)]
 conv => lhs; rw [Bc, show l.length - i = (l.length - (i + 1)) + 1 by omega, evm, if_pos hi]
 by_cases h2 : i < second l i
 · rw [if_pos h2, if_pos h2, Ky l env _ (second l i) (by omega)]
 · rw [if_neg h2, if_neg h2]
structure Cw (l : List Fo) (vars : Int) : Prop where
 h60 : l.length ≤ 60
 pos : 0 < l.length
 well : ∀ (i : Nat) (_ : i < l.length), (AJ l i).2 = 0
 op : ∀ (i : Nat) (hi : i < l.length), opZ l[i].kind l[i].val vars = 0
 typed : C2 l
 ends : (Ah l).2 = 0
theorem SR (l : List Fo) (vars : Int) : ∀ (m i : Nat), l.length = i + m → Hi (l.drop i) vars = 0 → ∀ (q : Nat) (hq : q < l.length), i ≤ q → opZ l[q].kind l[q].val vars = 0
 | 0, i, h, _, q, hq, hi => by omega
 | m + 1, i, h, he, q, hq, hi => by
   rw [Oc l i (by omega)] at he
   by_cases c : opZ l[i].kind l[i].val vars ≠ 0
   · rw [if_pos c] at he; exact absurd he c
   · rw [if_neg c] at he
     by_cases e : q = i
     · subst e; exact Decidable.not_not.1 c
     · exact SR l vars m (i + 1) (by omega) he q hq (by omega)
theorem Lc {l : List Fo} {vars : Int} (h : (CY l vars).2 = 0) : Cw l vars ∧ 0 ≤ vars ∧ vars ≤ 6 := by
 unfold CY at h
 by_cases h1 : vars < 0 ∨ 6 < vars
 · rw [if_pos h1] at h; exact absurd h (by decide)
 rw [if_neg h1] at h
 by_cases h2 : (Ah l).2 ≠ 0
 · rw [if_pos h2] at h; exact absurd h h2
 rw [if_neg h2] at h
 by_cases h3 : Hi l vars ≠ 0
 · rw [if_pos h3] at h; exact absurd h h3
 rw [if_neg h3] at h
 by_cases h4 : C2 l
 · obtain ⟨k1, k2, k3, k4, k5⟩ := Bp (l := l) (es := (Ah l).1) (Prod.ext rfl (Decidable.not_not.1 h2))
   exact ⟨⟨k1, k2, Lv (Decidable.not_not.1 h2), fun i hi => SR l vars l.length 0 (by omega) (Decidable.not_not.1 h3) i hi (Nat.zero_le _), h4, Decidable.not_not.1 h2⟩, by omega, by omega⟩
 · rw [if_neg h4] at h; exact absurd h (by decide)
theorem Cw.kind {l : List Fo} {vars : Int} (g : Cw l vars) {i : Nat} (hi : i < l.length) : 1 ≤ l[i].kind ∧ l[i].kind ≤ 12 ∧ (l[i].kind = 1 → -1000 ≤ l[i].val ∧ l[i].val ≤ 1000) ∧ (l[i].kind = 2 → 0 ≤ l[i].val ∧ l[i].val < vars) := by
 have h := g.op i hi
 unfold opZ at h
 by_cases c : ¬ okP l[i].kind
 · rw [if_pos c] at h; exact absurd h (by decide)
 rw [if_neg c] at h
 by_cases c2 : (l[i].kind = 1 ∧ (l[i].val < -1000 ∨ 1000 < l[i].val)) ∨ (l[i].kind = 2 ∧ (l[i].val < 0 ∨ vars ≤ l[i].val)) ∨ (2 < l[i].kind ∧ l[i].val ≠ 0)
 · rw [if_pos c2] at h; exact absurd h (by decide)
 omega
theorem Cw.parts {l : List Fo} {vars : Int} (g : Cw l vars) {i : Nat} (hi : i < l.length) :
 (np l i = 0 ∧ (AJ l i).1 = (i : Int) + 1) ∨
 (np l i = 1 ∧ i + 1 < l.length ∧ (AJ l i).1 = (AJ l (i + 1 : Nat)).1) ∨
 (np l i = 2 ∧ i + 1 < l.length ∧ i + 1 < second l i ∧ second l i < l.length ∧ (AJ l (i + 1 : Nat)).1 = (second l i : Nat) ∧ (AJ l i).1 = (AJ l (second l i : Nat)).1) := by
 have hk := An l i hi
 have he := FT l i hi
 have hw := g.well i hi
 have wk := NH hi hw
 rw [if_neg (fun h => h wk)] at he
 have hb := Bn l[i].kind
 unfold np
 rw [hk]
 generalize hn : (partsOf l[i].kind).1 = n at he hb ⊢
 by_cases h0 : n = 0
 · subst h0
   rw [if_pos (by decide)] at he
   exact .inl ⟨rfl, by rw [he]⟩
 rw [if_neg (by omega)] at he
 obtain ⟨q1, q2, q3, q4, q5⟩ := Cu hi hw (by omega)
 by_cases h1 : n = 1
 · subst h1
   refine .inr (.inl ⟨rfl, q1, ?_⟩)
   rw [he]; unfold AJ; rw [Int.toNat_natCast]; rfl
 · have h2 : n = 2 := by omega
   subst h2
   obtain ⟨r1, r2⟩ := DS hi hw hn
   refine .inr (.inr ⟨rfl, q1, q3, r1, q4, ?_⟩)
   have e := GV l (i + 1) 1 (by decide)
   rw [if_neg (fun h => h q2), q4] at e
   rw [he, show (1 : Int) + 2 - 1 = 1 + 1 by decide, show ((i : Int) + 1) = ((i + 1 : Nat) : Int) by omega, e]
   unfold AJ; rw [Int.toNat_natCast]
inductive Stk (l : List Fo) (f : Nat → Int) : Nat → List Int → Prop where
 | nil {i : Nat} (h : l.length ≤ i) : Stk l f i []
 | cons {i : Nat} {S : List Int} (hi : i < l.length) (h : Stk l f (AJ l i).1.toNat S) : Stk l f i (S ++ [f i])
theorem Stk.inv {l : List Fo} {f : Nat → Int} {i : Nat} {S : List Int} (h : Stk l f i S) (hi : i < l.length) : ∃ S', S = S' ++ [f i] ∧ Stk l f (AJ l i).1.toNat S' := by
 cases h with
 | nil h => omega
 | cons _ h => exact ⟨_, rfl, h⟩
theorem Stk.fin {l : List Fo} {f : Nat → Int} {i : Nat} {S : List Int} (h : Stk l f i S) (hi : l.length ≤ i) : S = [] := by
 cases h with
 | nil h => rfl
 | cons h' _ => omega
theorem NO {l : List Fo} {env : List Int} {i : Nat} (hi : i < l.length) (hk : De (AQ l i)) {v : Int} (h : Bc l env i = some v) : v = 0 ∨ v = 1 := by
 rw [Gt l env i hi, KK] at h
 obtain ⟨a, _, h⟩ := Option.bind_eq_some_iff.1 h
 obtain ⟨b, _, h⟩ := Option.bind_eq_some_iff.1 h
 unfold ovr at h
 split at h
 · cases h
   unfold opV
   rw [if_neg (by omega), if_neg (by omega), if_neg (by omega), if_neg (by omega), if_neg (by omega)]
   split
   · split <;> simp
   split
   · split <;> simp
   split
   · split <;> simp
   split
   · split <;> simp
   split
   · split <;> simp
   split <;> simp
 · cases h
theorem Ie {l : List Fo} {env : List Int} {i : Nat} (hi : i < l.length) {v : Int} (h : Bc l env i = some v) : AY v := by
 rw [Gt l env i hi, KK] at h
 obtain ⟨a, _, h⟩ := Option.bind_eq_some_iff.1 h
 obtain ⟨b, _, h⟩ := Option.bind_eq_some_iff.1 h
 unfold ovr at h
 split at h
 · cases h; assumption
 · cases h
theorem RL {l : List Fo} {i : Nat} (p m : Nat) (hp : p < m) : FQ ((l.drop i).take m) p = FQ l (i + p) := by
 unfold FQ
 rw [List.getElem?_take_of_lt hp, List.getElem?_drop]
theorem Xf {l : List Fo} {env : List Int} {vars : Int} (g : Cw l vars) {i : Nat} (hi : i < l.length) : ∀ (m k : Nat), (AJ l i).1 ≤ ((i + k + m : Nat) : Int) → ((i + k : Nat) : Int) < (AJ l i).1 → Bc ((l.drop i).take ((AJ l i).1.toNat - i)) env k = Bc l env (i + k) := by
 have hw := g.well i hi
 have hb := Al l i hw
 have hlen := Fp hw
 intro m
 induction m using Nat.strongRecOn with
 | _ m ih =>
 intro k h1 h2
 have hkl : k < ((l.drop i).take ((AJ l i).1.toNat - i)).length := by omega
 have hik : i + k < l.length := by omega
 rw [Gt _ env k hkl, Gt l env (i + k) hik]
 have hnest := Dl l l.length i 1 (AJ l i).1 (by omega) (by decide) (by rw [← Int.toNat_natCast i]; exact (Prod.ext rfl hw : AJ l i = ((AJ l i).1, 0)) ▸ rfl) (i + k) (by omega) (by omega)
 have e1 := Fz (l := l) (i := i) k ((AJ l i).1.toNat - i) (by omega)
 have e2 := RL (l := l) (i := i) k ((AJ l i).1.toNat - i) (by omega)
 unfold KK np
 rw [e1, e2]
 rcases g.parts hik with ⟨n0, _⟩ | ⟨n1, p1, p2⟩ | ⟨n2, p1, p2, p3, p4, p5⟩
 · rw [show (partsOf (AQ l (i + k))).1 = 0 from n0]; rfl
 · rw [show (partsOf (AQ l (i + k))).1 = 1 from n1]
   have hb1 := Al l (i + k + 1) (g.well _ p1)
   have := ih (m - 1) (by omega) (k + 1) (by omega) (by omega)
   rw [show i + (k + 1) = i + k + 1 by omega] at this
   rw [this]; rfl
 · rw [show (partsOf (AQ l (i + k))).1 = 2 from n2]
   have hb1 := Al l (i + k + 1) (g.well _ p1)
   have hb2 := Al l (second l (i + k)) (g.well _ p3)
   have t1 := ih (m - 1) (by omega) (k + 1) (by omega) (by omega)
   rw [show i + (k + 1) = i + k + 1 by omega] at t1
   have hpa := Kd hw (k + 1) (by omega)
   rw [show i + (k + 1) = i + k + 1 by omega, p4] at hpa
   have hs : second ((l.drop i).take ((AJ l i).1.toNat - i)) k = second l (i + k) - i := by
    unfold second at hpa ⊢
    rw [hpa]; dsimp only; omega
   have t2 := ih (m - (second l (i + k) - (i + k))) (by omega) (second l (i + k) - i) (by omega) (by omega)
   rw [show i + (second l (i + k) - i) = second l (i + k) by omega] at t2
   rw [t1, hs, t2, if_pos (show k < second l (i + k) - i by omega), if_pos (show i + k < second l (i + k) by omega)]
def wk (l : List Fo) (env : List Int) : Int × Int := match Bc l env 0 with | some n => (n, 0) | none => (0, 8)
def BP (l : List Fo) (env : List Int) : Int × Int :=
 if (CY l env.length).2 ≠ 0 then (0, (CY l env.length).2) else if ∀ v ∈ env, AY v then wk l env else (0, 2)
end Go.Sp
namespace Go.Proofs.YtibahljljjkceaaGreatDoor
open Go Go.Av Go.Sp
theorem CO : Cal Tryz.prog 153 := Cal.of Tryz.func153 (by kernel_rfl) (by kernel_rfl)
theorem FK : Cal Tryz.prog 186 := Cal.of Tryz.func186 (by kernel_rfl) (by kernel_rfl)
theorem EP {x y : Int} (hx : AY x) (hy : AY y) : A9 (x * y) := by
 have h : (x * y).natAbs ≤ 1000000 * 1000000 := by
  rw [Int.natAbs_mul]
  unfold AY at hx hy
  exact Nat.mul_le_mul (by omega) (by omega)
 generalize x * y = z at h
 unfold A9; omega
theorem pop0 (G : List (Nat × List D)) (bm : Nat) (env xs : List Int) (n : Nat) (q : Sl) (hl : xs.length = n + 1) (hS : n ≤ 1000) : AC Tryz.prog G 153 [.val (.pointer (some ⟨bm, 0, none⟩))] [.cells bm 209 [.val q.v, .d (AK env)], AM q.v 3 1 AW xs] fun r h => ∃ v : Sl, r = .ret (.int (xs[n]'(by omega))) ∧ h = [.cells bm 209 [.val v.v, .d (AK env)], AM v.v 3 1 AW (xs.take n)] := by
 refine AN (ts := [2]) Tryz.f153.ntmps Tryz.func153 rfl rfl rfl (by simp [Tryz.ntmps153]) fun W I => ?_
 have hn : ((xs.length : Int) - 1).toNat = n := by omega
 repeat' (first
  | exact True.intro | refine AD ?_ | refine two ?_ ?_ | refine AB fun c_ => ?_
  | (refine imp fun hc => ?_) <;> try exact cx1 hc
  | refine all fun v_ => ?_)
 refine AH (VS.cut (q := q) (f := AW) (xs := xs) (E := 3) (sz := 1) (n := ((xs.length : Int) - 1).toNat) (h' := [.cells bm 209 [.val (q.cut ((xs.length : Int) - 1).toNat).v, .d (AK env)], AM (q.cut ((xs.length : Int) - 1).toNat).v 3 1 AW (xs.take ((xs.length : Int) - 1).toNat)]) (by exact CV) (fun _ => rfl) (by omega)) ?_
 ((with_reducible apply rq1); rfl; rfl)
 refine ⟨q.cut ((xs.length : Int) - 1).toNat, ?_, by rw [hn]⟩
 simp only [hn]
 rfl
theorem pop (G : List (Nat × List D)) (bm : Nat) (env S : List Int) (a : Int) (q : Sl) (hS : S.length ≤ 1000) : AC Tryz.prog G 153 [.val (.pointer (some ⟨bm, 0, none⟩))] [.cells bm 209 [.val q.v, .d (AK env)], AM q.v 3 1 AW (S ++ [a])] fun r h => ∃ v : Sl, r = .ret (.int a) ∧ h = [.cells bm 209 [.val v.v, .d (AK env)], AM v.v 3 1 AW S] := by
 have := pop0 G bm env (S ++ [a]) S.length q (by simp) hS
 simp only [List.getElem_append_right (Nat.le_refl _), Nat.sub_self, List.getElem_cons_zero, List.take_left] at this
 exact this
theorem flag (G : List (Nat × List D)) (b : Bool) : ACr Tryz.prog G 186 [.bool b] (.int (if b = true then 1 else 0)) := by
 refine AN (ts := [2]) Tryz.f186.ntmps Tryz.func186 rfl rfl rfl (by simp [Tryz.ntmps186]) fun W I => ?_
 cases b
 all_goals
  repeat' (first
   | exact True.intro | refine AD ?_ | refine two ?_ ?_ | refine AB fun c_ => ?_
   | (refine imp fun hc => ?_) <;> try exact cx1 hc
   | refine all fun v_ => ?_)
  refine Bi ?_
  ((with_reducible apply rq1); rfl; rfl)
  exact AA rfl
theorem YC : Cal Tryz.prog 182 := Cal.of Tryz.func182 (by kernel_rfl) (by kernel_rfl)
theorem clo1 (G : List (Nat × List D)) (ba bb : Nat) (x y : Int) (hx : AY x) (hy : AY y) : AC Tryz.prog G 182 [.val (.pointer (some ⟨ba, 0, none⟩)), .val (.pointer (some ⟨bb, 0, none⟩))] [.cells ba 3 [.int x], .cells bb 3 [.int y]] fun r h => ∃ v : Unit, r = .ret (.int (x + y)) ∧ h = [.cells ba 3 [.int x], .cells bb 3 [.int y]] := by
 have hm := EP hx hy
 unfold AY at hx hy
 refine AN (ts := [2]) Tryz.f182.ntmps Tryz.func182 rfl rfl rfl (by simp [Tryz.ntmps182]) fun W I => ?_
 repeat' (first
  | refine ca FK (flag _ _) ?_
  | exact True.intro | refine AD ?_ | refine two ?_ ?_ | refine AB fun c_ => ?_
  | (refine imp fun hc => ?_) <;> try exact cx1 hc
  | refine all fun v_ => ?_)
 refine Bi ?_
 ((with_reducible apply rq1); rfl; rfl)
 exact ⟨(), rfl, rfl⟩
theorem XE : Cal Tryz.prog 183 := Cal.of Tryz.func183 (by kernel_rfl) (by kernel_rfl)
theorem clo2 (G : List (Nat × List D)) (ba bb : Nat) (x y : Int) (hx : AY x) (hy : AY y) : AC Tryz.prog G 183 [.val (.pointer (some ⟨ba, 0, none⟩)), .val (.pointer (some ⟨bb, 0, none⟩))] [.cells ba 3 [.int x], .cells bb 3 [.int y]] fun r h => ∃ v : Unit, r = .ret (.int (x - y)) ∧ h = [.cells ba 3 [.int x], .cells bb 3 [.int y]] := by
 have hm := EP hx hy
 unfold AY at hx hy
 refine AN (ts := [2]) Tryz.f183.ntmps Tryz.func183 rfl rfl rfl (by simp [Tryz.ntmps183]) fun W I => ?_
 repeat' (first
  | refine ca FK (flag _ _) ?_
  | exact True.intro | refine AD ?_ | refine two ?_ ?_ | refine AB fun c_ => ?_
  | (refine imp fun hc => ?_) <;> try exact cx1 hc
  | refine all fun v_ => ?_)
 refine Bi ?_
 ((with_reducible apply rq1); rfl; rfl)
 exact ⟨(), rfl, rfl⟩
theorem X1 : Cal Tryz.prog 184 := Cal.of Tryz.func184 (by kernel_rfl) (by kernel_rfl)
theorem clo3 (G : List (Nat × List D)) (ba bb : Nat) (x y : Int) (hx : AY x) (hy : AY y) : AC Tryz.prog G 184 [.val (.pointer (some ⟨ba, 0, none⟩)), .val (.pointer (some ⟨bb, 0, none⟩))] [.cells ba 3 [.int x], .cells bb 3 [.int y]] fun r h => ∃ v : Unit, r = .ret (.int (x * y)) ∧ h = [.cells ba 3 [.int x], .cells bb 3 [.int y]] := by
 have hm := EP hx hy
 unfold AY at hx hy
 refine AN (ts := [2]) Tryz.f184.ntmps Tryz.func184 rfl rfl rfl (by simp [Tryz.ntmps184]) fun W I => ?_
 repeat' (first
  | refine ca FK (flag _ _) ?_
  | exact True.intro | refine AD ?_ | refine two ?_ ?_ | refine AB fun c_ => ?_
  | (refine imp fun hc => ?_) <;> try exact cx1 hc
  | refine all fun v_ => ?_)
 refine Bi ?_
 ((with_reducible apply rq1); rfl; rfl)
 exact ⟨(), rfl, rfl⟩
theorem Xd : Cal Tryz.prog 185 := Cal.of Tryz.func185 (by kernel_rfl) (by kernel_rfl)
theorem clo4 (G : List (Nat × List D)) (ba bb : Nat) (x y : Int) (hx : AY x) (hy : AY y) : AC Tryz.prog G 185 [.val (.pointer (some ⟨ba, 0, none⟩)), .val (.pointer (some ⟨bb, 0, none⟩))] [.cells ba 3 [.int x], .cells bb 3 [.int y]] fun r h => ∃ v : Unit, r = .ret (.int (if decide (x = y) = true then 1 else 0)) ∧ h = [.cells ba 3 [.int x], .cells bb 3 [.int y]] := by
 have hm := EP hx hy
 unfold AY at hx hy
 refine AN (ts := [2]) Tryz.f185.ntmps Tryz.func185 rfl rfl rfl (by simp [Tryz.ntmps185]) fun W I => ?_
 repeat' (first
  | refine ca FK (flag _ _) ?_
  | exact True.intro | refine AD ?_ | refine two ?_ ?_ | refine AB fun c_ => ?_
  | (refine imp fun hc => ?_) <;> try exact cx1 hc
  | refine all fun v_ => ?_)
 refine Bi ?_
 ((with_reducible apply rq1); rfl; rfl)
 exact ⟨(), rfl, rfl⟩
theorem XI : Cal Tryz.prog 187 := Cal.of Tryz.func187 (by kernel_rfl) (by kernel_rfl)
theorem clo5 (G : List (Nat × List D)) (ba bb : Nat) (x y : Int) (hx : AY x) (hy : AY y) : AC Tryz.prog G 187 [.val (.pointer (some ⟨ba, 0, none⟩)), .val (.pointer (some ⟨bb, 0, none⟩))] [.cells ba 3 [.int x], .cells bb 3 [.int y]] fun r h => ∃ v : Unit, r = .ret (.int (if decide (x < y) = true then 1 else 0)) ∧ h = [.cells ba 3 [.int x], .cells bb 3 [.int y]] := by
 have hm := EP hx hy
 unfold AY at hx hy
 refine AN (ts := [2]) Tryz.f187.ntmps Tryz.func187 rfl rfl rfl (by simp [Tryz.ntmps187]) fun W I => ?_
 repeat' (first
  | refine ca FK (flag _ _) ?_
  | exact True.intro | refine AD ?_ | refine two ?_ ?_ | refine AB fun c_ => ?_
  | (refine imp fun hc => ?_) <;> try exact cx1 hc
  | refine all fun v_ => ?_)
 refine Bi ?_
 ((with_reducible apply rq1); rfl; rfl)
 exact ⟨(), rfl, rfl⟩
theorem Xv : Cal Tryz.prog 188 := Cal.of Tryz.func188 (by kernel_rfl) (by kernel_rfl)
theorem clo6 (G : List (Nat × List D)) (ba bb : Nat) (x y : Int) (hx : AY x) (hy : AY y) : AC Tryz.prog G 188 [.val (.pointer (some ⟨ba, 0, none⟩)), .val (.pointer (some ⟨bb, 0, none⟩))] [.cells ba 3 [.int x], .cells bb 3 [.int y]] fun r h => ∃ v : Unit, r = .ret (.int (bits .and .i64 x y)) ∧ h = [.cells ba 3 [.int x], .cells bb 3 [.int y]] := by
 have hm := EP hx hy
 unfold AY at hx hy
 refine AN (ts := [2]) Tryz.f188.ntmps Tryz.func188 rfl rfl rfl (by simp [Tryz.ntmps188]) fun W I => ?_
 repeat' (first
  | refine ca FK (flag _ _) ?_
  | exact True.intro | refine AD ?_ | refine two ?_ ?_ | refine AB fun c_ => ?_
  | (refine imp fun hc => ?_) <;> try exact cx1 hc
  | refine all fun v_ => ?_)
 refine Bi ?_
 ((with_reducible apply rq1); rfl; rfl)
 exact ⟨(), rfl, rfl⟩
theorem YI : Cal Tryz.prog 189 := Cal.of Tryz.func189 (by kernel_rfl) (by kernel_rfl)
theorem clo7 (G : List (Nat × List D)) (ba bb : Nat) (x y : Int) (hx : AY x) (hy : AY y) : AC Tryz.prog G 189 [.val (.pointer (some ⟨ba, 0, none⟩)), .val (.pointer (some ⟨bb, 0, none⟩))] [.cells ba 3 [.int x], .cells bb 3 [.int y]] fun r h => ∃ v : Unit, r = .ret (.int (bits .or .i64 x y)) ∧ h = [.cells ba 3 [.int x], .cells bb 3 [.int y]] := by
 have hm := EP hx hy
 unfold AY at hx hy
 refine AN (ts := [2]) Tryz.f189.ntmps Tryz.func189 rfl rfl rfl (by simp [Tryz.ntmps189]) fun W I => ?_
 repeat' (first
  | refine ca FK (flag _ _) ?_
  | exact True.intro | refine AD ?_ | refine two ?_ ?_ | refine AB fun c_ => ?_
  | (refine imp fun hc => ?_) <;> try exact cx1 hc
  | refine all fun v_ => ?_)
 refine Bi ?_
 ((with_reducible apply rq1); rfl; rfl)
 exact ⟨(), rfl, rfl⟩

end Go.Proofs.YtibahljljjkceaaGreatDoor
