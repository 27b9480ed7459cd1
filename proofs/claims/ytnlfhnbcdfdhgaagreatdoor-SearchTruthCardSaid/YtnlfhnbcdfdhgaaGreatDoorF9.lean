/- A bundle of this claim's own texts: M6 G6 M8 E11 G9. -/
import Derived.Test.YtnlfhnbcdfdhgaaGreatDoorF2
import Derived.Test.YtnlfhnbcdfdhgaaGreatDoorF3
import Derived.Test.YtnlfhnbcdfdhgaaGreatDoorF8
set_option linter.unusedVariables false
set_option linter.unusedSimpArgs false
set_option maxRecDepth 100000
set_option maxHeartbeats 4000000
namespace Go.Proofs.YtnlfhnbcdfdhgaaGreatDoor
open Go Go.Av Go.Sp

theorem QU : Cal Tryz.prog 126 := Cal.of Tryz.func126 (by kernel_rfl) (by kernel_rfl)
theorem Code (m : Md) (xs : List Int) : ACr Tryz.prog GP 126 [mdA m, .d (AK xs)] (.tup [.int (codeF m xs).1, .int (codeF m xs).2]) := by
 refine AC.factI (f := Aa) (xs := xs) (.there .here) fun hlx => ?_
 refine AJ (ts := [4, 5]) Tryz.f126.ntmps Tryz.func126 rfl rfl rfl (by simp [Tryz.ntmps126]) fun W I => ?_
 by_cases c1 : Ag m ≠ 0
 · repeat' (first
    | refine ca Aq (CE _) ?_
    | exact True.intro | refine AG ?_ | refine two ?_ ?_ | refine AF fun c_ => ?_
    | (refine imp fun hc => ?_) <;> try exact cx1 hc
    | refine all fun v_ => ?_)
   refine AN (VS.drop (List.nil_sublist _)) ?_
   ((with_reducible apply rq2); rfl; rfl; rfl)
   exact AB (by rw [codeF, if_pos c1])
 have hv := Be (show Ag m = 0 by omega)
 have g := KI hv
 have hl6 := He hv
 by_cases c2 : xs.length ≠ m.vars.length
 · repeat' (first
    | refine ca Aq (CE _) ?_
    | exact True.intro | refine AG ?_ | refine two ?_ ?_ | refine AF fun c_ => ?_
    | (refine imp fun hc => ?_) <;> try exact cx1 hc
    | refine all fun v_ => ?_)
   refine AN (VS.drop (List.nil_sublist _)) ?_
   ((with_reducible apply rq2); rfl; rfl; rfl)
   exact AB (by rw [codeF, if_neg c1, if_pos c2])
 have hF : codeF m xs = Dh 0 m.vars xs := by rw [codeF, if_neg c1, if_neg c2]
 have hxl : xs.length = m.vars.length := Decidable.not_not.1 c2
 clear c2
 repeat' (first
  | refine ca Aq (CE _) ?_
  | exact True.intro | refine AG ?_ | refine two ?_ ?_ | refine AF fun c_ => ?_
  | (refine imp fun hc => ?_) <;> try exact cx1 hc
  | refine all fun v_ => ?_)
 refine AM (X := Nat × Int) (fun y => [(1, .d (AK xs)), (7, .int y.2), (22, .d (BT m.vars)), (23, .int m.vars.length), (24, .int y.1)]) (fun _ => []) (fun y => y.1 ≤ m.vars.length ∧ 0 ≤ y.2 ∧ y.2 + 1 ≤ AQ (m.vars.take y.1) ∧ codeF m xs = Dh y.2 (m.vars.drop y.1) (xs.drop y.1)) (fun y => m.vars.length - y.1) (0, 0) ⟨Nat.zero_le _, by decide, by simp [AQ], hF⟩ (VS.trans (VS.drop (List.nil_sublist _)) (VS.of_le ?_)) ?_
 · exact leD
 rintro ⟨i, n⟩ ⟨h1, h2, h3, h4⟩
 dsimp only at h1 h2 h3 h4 ⊢
 by_cases hi : ¬ i < m.vars.length
 · rw [Ut _ _ _ _ (by omega)] at h4
   repeat' (first
    | refine ca Aq (CE _) ?_
    | exact True.intro | refine AG ?_ | refine two ?_ ?_ | refine AF fun c_ => ?_
    | (refine imp fun hc => ?_) <;> try exact cx1 hc
    | refine all fun v_ => ?_)
   refine AN (VS.drop (List.nil_sublist _)) ?_
   ((with_reducible apply rq2); rfl; rfl; rfl)
   exact AB (by rw [h4])
 replace hi := Decidable.not_not.1 hi
 have hi' : i < xs.length := by omega
 rw [XI _ _ _ _ hi hi'] at h4
 obtain ⟨d1, d2, d3, d4, d5⟩ := g.range _ (List.getElem_mem hi)
 by_cases cl : xs[i] < m.vars[i].low
 · rw [if_neg (by omega)] at h4
   repeat' (first
    | refine ca Aq (CE _) ?_
    | exact True.intro | refine AG ?_ | refine two ?_ ?_ | refine AF fun c_ => ?_
    | (refine imp fun hc => ?_) <;> try exact cx1 hc
    | refine all fun v_ => ?_)
   all_goals
    refine AN (VS.drop (List.nil_sublist _)) ?_
    ((with_reducible apply rq2); rfl; rfl; rfl)
    exact AB (by rw [h4])
 by_cases ch : m.vars[i].high < xs[i]
 · rw [if_neg (by omega)] at h4
   repeat' (first
    | refine ca Aq (CE _) ?_
    | exact True.intro | refine AG ?_ | refine two ?_ ?_ | refine AF fun c_ => ?_
    | (refine imp fun hc => ?_) <;> try exact cx1 hc
    | refine all fun v_ => ?_)
   all_goals
    refine AN (VS.drop (List.nil_sublist _)) ?_
    ((with_reducible apply rq2); rfl; rfl; rfl)
    exact AB (by rw [h4])
 rw [if_pos (by omega)] at h4
 have hsp : BD m.vars[i] = m.vars[i].high - m.vars[i].low + 1 := rfl
 obtain ⟨s1, s2, s3⟩ := KE (s := BD m.vars[i]) (d := xs[i] - m.vars[i].low) h2 h3 (by omega) (by omega)
 rw [← Gj m.vars i hi] at s3
 have b2 := (g.take (i + 1)).2.1
 rw [hsp] at s1 s2 s3 h4
 have hin : AX (n * (m.vars[i].high - m.vars[i].low + 1)) := ⟨by omega, by omega⟩
 repeat' (first
  | refine ca Aq (CE _) ?_
  | exact True.intro | refine AG ?_ | refine two ?_ ?_ | refine AF fun c_ => ?_
  | (refine imp fun hc => ?_) <;> try exact cx1 hc
  | refine all fun v_ => ?_)
 refine ⟨(i + 1, n * (m.vars[i].high - m.vars[i].low + 1) + (xs[i] - m.vars[i].low)), ⟨by dsimp only; omega, s2, s3, h4⟩, by dsimp only; omega, ?_⟩
 dsimp only
 rw [show n * (m.vars[i].high - m.vars[i].low + 1) + (xs[i] - m.vars[i].low) = n * (m.vars[i].high - m.vars[i].low + 1) + xs[i] - m.vars[i].low by omega]
 refine VS.trans (VS.drop (List.nil_sublist _)) (VS.of_le ?_)
 exact leD
end Go.Proofs.YtnlfhnbcdfdhgaaGreatDoor
namespace Go.Sp
open Go Go.Av

def CQ : List Vr → Int → List Int
 | [], _ => []
 | v :: l, c => (v.low + c / AQ l) :: CQ l (c % AQ l)
theorem GN : ∀ (l : List Vr) (c : Int), (CQ l c).length = l.length
 | [], _ => rfl
 | _ :: l, c => by simp [CQ, GN l]
theorem cw (c q s t : Int) (hq : 0 < q) : (c % (t * (s * q))) / q % s = c / q % s := by
 have e : c % (t * (s * q)) = c + (-(t * (c / (t * (s * q)))) * s) * q := by
  rw [Int.emod_def, show t * (s * q) * (c / (t * (s * q))) = t * (c / (t * (s * q))) * s * q by
   rw [Int.mul_assoc t (s * q), Int.mul_comm (s * q), ← Int.mul_assoc, ← Int.mul_assoc]]
  rw [Int.neg_mul, Int.neg_mul]
  omega
 rw [e, Int.add_mul_ediv_right _ _ (by omega), Int.add_mul_emod_self_right]
theorem Jh : ∀ (l : List Vr) (c : Int) (i : Nat) (_ : ∀ v ∈ l, 1 ≤ BD v) (_ : 0 ≤ c) (_ : c < AQ l) (h : i < l.length) (h' : i < (CQ l c).length), (CQ l c)[i] = l[i].low + c / AQ (l.drop (i + 1)) % BD l[i]
 | [], _, _, _, _, _, h, _ => by simp at h
 | v :: l, c, 0, hs, h0, hc, _, _ => by
   have hp := Dy fun w hw => hs w (List.mem_cons_of_mem v hw)
   simp only [CQ, List.getElem_cons_zero, List.drop_succ_cons, List.drop_zero]
   rw [Int.emod_eq_of_lt (Int.ediv_nonneg h0 (by omega)) (Int.ediv_lt_of_lt_mul (by omega) hc)]
 | v :: l, c, i + 1, hs, h0, hc, h, h' => by
   have hl : ∀ w ∈ l, 1 ≤ BD w := fun w hw => hs w (List.mem_cons_of_mem v hw)
   have hp := Dy hl
   have hi : i < l.length := by simpa using h
   have hq := Dy fun w hw => hl w (List.mem_of_mem_drop (i := i + 1) hw)
   have e : AQ l = AQ (l.take i) * (BD l[i] * AQ (l.drop (i + 1))) := by
    rw [← Lw l i hi, ← Ea, List.take_append_drop]
   simp only [CQ, List.getElem_cons_succ, List.drop_succ_cons]
   rw [Jh l _ i hl (Int.emod_nonneg _ (by omega)) (Int.emod_lt_of_pos _ (by omega)) hi, e, cw _ _ _ _ (by omega)]
noncomputable def CJ (m : Md) (c : Int) : List Int × Int := if Ag m ≠ 0 then ([], Ag m) else if 0 ≤ c ∧ c < AQ m.vars then (CQ m.vars c, 0) else ([], 9)
theorem af (c q s : Int) (hq : 0 ≤ q) : c / q / s = c / (s * q) := by rw [Int.ediv_ediv, if_neg (by omega), Int.sub_zero, Int.mul_comm]
def HS (V : List Int) (k : Nat) : List Int := List.replicate k 0 ++ V.drop k
theorem Oq (V : List Int) (k : Nat) (h : k ≤ V.length) : (HS V k).length = V.length := by simp [HS]; omega
theorem Vz (V : List Int) (k : Nat) (h : k < V.length) : (HS V (k + 1)).set k V[k] = HS V k := by
 unfold HS
 rw [List.replicate_succ', List.append_assoc, List.set_append_right _ _ (by simp), List.drop_eq_getElem_cons h]
 simp
end Go.Sp
namespace Go.Proofs.YtnlfhnbcdfdhgaaGreatDoor
open Go Go.Av Go.Sp

theorem Dm : Cal Tryz.prog 82 := Cal.of Tryz.func82 (by kernel_rfl) (by kernel_rfl)
theorem ZM (m : Md) (code : Int) : ACr Tryz.prog GP 82 [mdA m, .int code] (.tup [.d (AK (CJ m code).1), .int (CJ m code).2]) := by
 refine AJ (ts := [4, 5]) Tryz.f82.ntmps Tryz.func82 rfl rfl rfl (by simp [Tryz.ntmps82]) fun W I => ?_
 have ec := Count m
 by_cases c1 : Ag m ≠ 0
 · rw [IF, if_pos c1] at ec
   dsimp only at ec
   repeat' (first
    | refine ca Ca (ec) ?_
    | exact True.intro | refine AG ?_ | refine two ?_ ?_ | refine AF fun c_ => ?_
    | (refine imp fun hc => ?_) <;> try exact cx1 hc
    | refine all fun v_ => ?_)
   refine AN (VS.trans (VS.drop (List.nil_sublist _)) (EZ (t := 4) 1 8 rfl)) ?_
   ((with_reducible apply rq2); rfl; rfl; rfl)
   exact AB (by rw [CJ, if_pos c1]; rfl)
 have hv := Be (show Ag m = 0 by omega)
 have g := KI hv
 have hl6 := He hv
 have hall := g.all
 rw [IF, if_neg c1] at ec
 dsimp only at ec
 by_cases c2 : ¬ (0 ≤ code ∧ code < AQ m.vars)
 · repeat' (first
    | refine ca Ca (ec) ?_
    | exact True.intro | refine AG ?_ | refine two ?_ ?_ | refine AF fun c_ => ?_
    | (refine imp fun hc => ?_) <;> try exact cx1 hc
    | refine all fun v_ => ?_)
   all_goals
    refine AN (VS.trans (VS.drop (List.nil_sublist _)) (EZ (t := 4) 1 8 rfl)) ?_
    ((with_reducible apply rq2); rfl; rfl; rfl)
    exact AB (by rw [CJ, if_neg c1, if_neg c2]; rfl)
 replace c2 := Decidable.not_not.1 c2
 have hF : CJ m code = (CQ m.vars code, 0) := by rw [CJ, if_neg c1, if_pos c2]
 have hVl := GN m.vars code
 repeat' (first
  | refine ca Ca (ec) ?_
  | exact True.intro | refine AG ?_ | refine two ?_ ?_ | refine AF fun c_ => ?_
  | (refine imp fun hc => ?_) <;> try exact cx1 hc
  | refine all fun v_ => ?_)
 obtain ⟨bo, rfl⟩ : ∃ x, x = v_ := ⟨v_, rfl⟩
 obtain ⟨bm, rfl⟩ : ∃ x, x = v_ := ⟨v_, rfl⟩
 have e0 : code / AQ (m.vars.drop m.vars.length) = code := by simp [AQ]
 have e1 : HS (CQ m.vars code) m.vars.length = List.replicate m.vars.length 0 := by simp [HS, hVl]
 refine AM (X := Nat) (fun k => [(1, .int (code / AQ (m.vars.drop k))), (2, .val (.pointer (some ⟨bm, 0, none⟩))), (8, .val (.slice (some ⟨bo, 0, none⟩) m.vars.length m.vars.length)), (9, .int ((k : Int) - 1))]) (fun k => [.cells bo 3 ((HS (CQ m.vars code) k).map AV.int), .cells bm 25 [.d (BT m.vars), .d (A2 m.rules)]]) (fun k => k ≤ m.vars.length) (fun k => k) m.vars.length (Nat.le_refl _) ?_ ?_
 · rw [e0, e1]
   refine VS.of_le ?_
   exact leD
 rintro k h1
 have hfl := Oq (CQ m.vars code) k (by omega)
 by_cases hk : k = 0
 · subst hk
   repeat' (first
    | refine ca Ca (ec) ?_
    | exact True.intro | refine AG ?_ | refine two ?_ ?_ | refine AF fun c_ => ?_
    | (refine imp fun hc => ?_) <;> try exact cx1 hc
    | refine all fun v_ => ?_)
   refine AN (VS.trans (VS.drop (h' := [.cells bo 3 ((HS (CQ m.vars code) 0).map AV.int)]) (by exact HX)) (vfz (t := 4) (f := Aa) (h1 := []) 1 8 rfl rfl rfl (Jg (HS (CQ m.vars code) 0)) (by omega) (fun _ => rfl) (by omega) (by omega))) ?_
   ((with_reducible apply rq2); rfl; rfl; rfl)
   exact AB (by rw [hF]; simp [HS] <;> rfl)
 obtain ⟨j, rfl⟩ : ∃ j, k = j + 1 := ⟨k - 1, by omega⟩
 have hj : j < m.vars.length := by omega
 have ej : (((j + 1 : Nat) : Int) - 1) = (j : Int) := by omega
 rw [ej]
 obtain ⟨d1, d2, d3, d4, d5⟩ := g.range _ (List.getElem_mem hj)
 have hq := (g.take (j + 1)).2.2
 have hsp : BD m.vars[j] = m.vars[j].high - m.vars[j].low + 1 := rfl
 have q0 : 0 ≤ code / AQ (m.vars.drop (j + 1)) := Int.ediv_nonneg c2.1 (by omega)
 have q1 : code / AQ (m.vars.drop (j + 1)) ≤ code := Int.ediv_le_self _ c2.1
 have hn : code / AQ (m.vars.drop (j + 1)) / (m.vars[j].high - m.vars[j].low + 1) = code / AQ (m.vars.drop j) := by rw [af _ _ _ (by omega), Lw _ _ hj, hsp]
 have hV := Jh m.vars code j (fun v hv => (g.span v hv).1) c2.1 c2.2 hj (by omega)
 have hset := Vz (CQ m.vars code) j (by omega)
 rw [hV, hsp] at hset
 generalize code / AQ (m.vars.drop (j + 1)) = c at *
 have m0 := Int.emod_nonneg c (show m.vars[j].high - m.vars[j].low + 1 ≠ 0 by omega)
 have m1 := Int.emod_lt_of_pos c (show 0 < m.vars[j].high - m.vars[j].low + 1 by omega)
 repeat' (first
  | refine ca Ca (ec) ?_
  | exact True.intro | refine AG ?_ | refine two ?_ ?_ | refine AF fun c_ => ?_
  | (refine imp fun hc => ?_) <;> try exact cx1 hc
  | refine all fun v_ => ?_)
 refine ⟨j, by omega, by omega, ?_⟩
 rw [← hn, ← hset]
 refine VS.take (by exact AD) ?_
 exact leD
end Go.Proofs.YtnlfhnbcdfdhgaaGreatDoor
namespace Go.Av
open Go Go.Instr
section
variable {P : Program} {G : List (Nat × List D)} {ρ : Env} {h : H} {dst : Option Tmp} {ty : TypeId} {pos : String} {after : Array Edge} {g : Option (Nat × Bool)}
theorem Du {α β : Type} [DecidableEq α] {kd : TypeDesc} {kv : α → Value} {vv : β → Value} (K : K9 kd kv) {T KT ET : TypeId} {x y : Operand} {b : Nat} {ps : List (α × β)} {a : α}
 (hx : evO ρ x = some (.val (.map (some b)))) (hy : evO ρ y = some (.val (kv a))) (hT : P.underlying T = some (.map KT ET)) (hK : P.underlying KT = some kd) (hm : Ent.raw b (A1 (Ac kv vv ps)) ∈ h) {c : β} (hc : getM ps a = some c) :
 Pure P G ⟨dst, .lookup T x y false, ty, pos, after, g⟩ ρ h (.val (vv c)) := by
 intro cx I n ac w _ hok hs
 have e1 := AL (hs.ev x) (AA hx)
 have e2 := AL (hs.ev y) (AA hy)
 have hb : w.heap[b]? = some (A1 (Ac kv vv ps)) := hok.ent _ hm
 refine ⟨vv c, rfl, fun w' hw' => ?_⟩
 have hb' : w'.heap[b]? = some (A1 (Ac kv vv ps)) := (hw'.own b (DY hm rfl)).trans hb
 have hobj : (getObj b).run P w' = .ok (.map (BV (Ac kv vv ps) 0).toArray (Ac kv vv ps).length) w' := by simp [getObj, Sem.run, hb', A1]
 obtain ⟨r, hr1, hr2⟩ := QM (vv := vv) K hK ps a w'
 simp only [execOp, e1, e2, lookup]
 rw [hc] at hr2
 cases r with
 | none => cases hr2
 | some p =>
   obtain ⟨j, v⟩ := p
   obtain rfl : v = vv c := by simpa using hr2
   simp [run_underlying hT, hobj, K.easy P KT _ a w' hK, hr1]
end
section
variable {k : Kx} {Q : Exit → Env → H → Prop} {ρ : Env} {h h' : H} {ops : Array Oper} {l : List Oper} {d : Nat} {ty : TypeId} {pos : String} {after : Array Edge} {g : Option (Nat × Bool)}
-- an entry of a literal
theorem FD {α β : Type} [DecidableEq α] {kd : TypeDesc} {kv : α → Value} {vv : β → Value} (K : K9 kd kv) {T KT ET : TypeId} {x y u : Operand} {r : AV} {b : Nat} {ps : List (α × β)} {a : α} {c : β}
 (hx : evO ρ x = some (.val (.map (some b)))) (hy : evO ρ y = some (.val (kv a))) (hv : evO ρ u = some r) (hr : ∀ w I v, AV.rel w I r v → v = vv c) (hT : k.P.underlying T = some (.map KT ET)) (hK : k.P.underlying KT = some kd)
 (hu : Upd (.raw b (A1 (Ac kv vv ps))) (.raw b (A1 (Ac kv vv (ps ++ [(a, c)])))) h h') (hno : getM ps a = none)
 (hj : JL k ops l Q ρ h') : JL k ops (⟨none, .insert T x y u, ty, pos, after, none⟩ :: l) Q ρ h := by
 obtain ⟨h1, h2, rfl, rfl⟩ := hu.split
 refine FP rfl rfl fun I ac w k1 k2 => ?_
 have e1 := AL (k2.ev x) (AA hx)
 have e2 := AL (k2.ev y) (AA hy)
 have e3 := hr _ _ _ (BW (k2.ev u) (AA hv))
 have hb : w.heap[b]? = some (A1 (Ac kv vv ps)) := k1.ent (.raw b (A1 (Ac kv vv ps))) (by simp)
 have hfind := Ki (vv := vv) K a ps 0 0 (getM_none.1 hno)
 have hnew : Obj.map (BV (Ac kv vv ps) 0 ++ [(⟨kv a, vv c, (Ac kv vv ps).length⟩ : MapEntry)]).toArray ((Ac kv vv ps).length + 1) = A1 (Ac kv vv (ps ++ [(a, c)])) := by
  have e : Ac kv vv (ps ++ [(a, c)]) = Ac kv vv ps ++ [(kv a, vv c)] := by simp [Ac]
  unfold A1
  rw [e, EW]
  simp [BV]
 obtain ⟨g1, g2⟩ := k1.write (w' := { w with heap := w.heap.setIfInBounds b (A1 (Ac kv vv (ps ++ [(a, c)]))) }) (e' := .raw b (A1 (Ac kv vv (ps ++ [(a, c)])))) (b := b) rfl rfl rfl rfl rfl (by simp)
  (fun x hx => by simp [Array.getElem?_setIfInBounds, Ne.symm hx]) (by
   have hlt := (Array.getElem?_eq_some_iff.1 hb).1
   show _ = _
   simp [Array.getElem?_setIfInBounds, hlt])
 refine ⟨{ w with heap := w.heap.setIfInBounds b (A1 (Ac kv vv (ps ++ [(a, c)]))) }, I, h1 ++ .raw b (A1 (Ac kv vv (ps ++ [(a, c)]))) :: h2, ?_, g1, k2.mono g2 (fun _ h => h), hj⟩
 have hobj : (getObj b).run k.P w = .ok (.map (BV (Ac kv vv ps) 0).toArray (Ac kv vv ps).length) w := by simp [getObj, Sem.run, hb, A1]
 have hset := Lh (P := k.P) (w := w) (r := b) (A1 (Ac kv vv (ps ++ [(a, c)]))) (es := (BV (Ac kv vv ps) 0).toArray) (clock := (Ac kv vv ps).length) hb
 simp only [execOp, e1, e2, e3, mapUpdate]
 simp [run_underlying hT, hobj, K.easy k.P KT false a w hK, findKey, run_underlying hK, hfind, hnew, hset]
theorem FR {α β : Type} (kv : α → Value) (vv : β → Value) {T : TypeId} (hd : Nat.blt d k.n = true) (hj : All fun b : Nat => JL k ops l Q ((d, .val (.map (some b))) :: ρ) (.raw b (A1 (Ac kv vv [])) :: h)) : JL k ops (⟨some d, .makeMap T none, ty, pos, after, none⟩ :: l) Q ρ h := ZS hd hj
end
end Go.Av
namespace Go.Sp
open Go Go.Av

def Ak (n : Int) : Prop := -1000000 ≤ n ∧ n ≤ 1000000
instance (n : Int) : Decidable (Ak n) := by unfold Ak; infer_instance
def ovr (n : Int) : Option Int := if Ak n then some n else none
def opV (k v : Int) (env : List Int) (a b : Int) : Int :=
 if k = 1 then v else if k = 2 then (env[v.toNat]?).getD 0 else if k = 3 then a + b else if k = 4 then a - b else if k = 5 then a * b
 else if k = 6 then (if a = b then 1 else 0) else if k = 7 then (if a < b then 1 else 0) else if k = 8 then (if a = 1 ∧ b = 1 then 1 else 0)
 else if k = 9 then (if a = 1 ∨ b = 1 then 1 else 0) else if k = 10 then (if a = 0 then 1 else 0) else if k = 11 then 1 else 0
abbrev np (l : List Fo) (i : Nat) : Int := (partsOf (BJ l i)).1
def NJ (l : List Fo) (env : List Int) (i : Nat) (a b : Option Int) : Option Int :=
 (if 1 ≤ np l i then a else some 0).bind fun x => (if 2 ≤ np l i then b else some 0).bind fun y => ovr (opV (BJ l i) (UL l i) env x y)
def evm (l : List Fo) (env : List Int) : Nat → Nat → Option Int
 | 0, _ => none
 | m + 1, i => if i < l.length then NJ l env i (evm l env m (i + 1)) (if i < second l i then evm l env m (second l i) else none) else none
def Cs (l : List Fo) (env : List Int) (i : Nat) : Option Int := evm l env (l.length - i) i
theorem Ly (l : List Fo) (env : List Int) : ∀ (m i : Nat), l.length ≤ i + m → evm l env m i = Cs l env i := by
 intro m
 induction m using Nat.strongRecOn with
 | _ m ih =>
 intro i h
 unfold Cs
 by_cases hi : i < l.length
 · obtain ⟨m', rfl⟩ : ∃ m', m = m' + 1 := ⟨m - 1, by omega⟩
   obtain ⟨k, hk⟩ : ∃ k, l.length - i = k + 1 := ⟨l.length - i - 1, by omega⟩
   rw [hk]
   have e : ∀ j, i < j → evm l env m' j = evm l env k j := fun j hj => by
    rw [ih m' (by omega) j (by omega)]
    by_cases hkm : k < m' + 1
    · rw [ih k hkm j (by omega)]
    · omega
   simp only [evm, if_pos hi]
   rw [e (i + 1) (by omega)]
   by_cases h2 : i < second l i
   · rw [if_pos h2, if_pos h2, e _ h2]
   · rw [if_neg h2, if_neg h2]
 · rw [show l.length - i = 0 by omega]
   cases m with
   | zero => rfl
   | succ m => simp only [evm, if_neg hi]
theorem Kl (l : List Fo) (env : List Int) (i : Nat) (hi : i < l.length) : Cs l env i = NJ l env i (Cs l env (i + 1)) (if i < second l i then Cs l env (second l i) else none) := by
 rw [← Ly l env (l.length - (i + 1)) (i + 1) (by omega)]
 conv => lhs; rw [Cs, show l.length - i = (l.length - (i + 1)) + 1 by omega, evm, if_pos hi]
 by_cases h2 : i < second l i
 · rw [if_pos h2, if_pos h2, Ly l env _ (second l i) (by omega)]
 · rw [if_neg h2, if_neg h2]
structure LH (l : List Fo) (vars : Int) : Prop where
 h60 : l.length ≤ 60
 pos : 0 < l.length
 well : ∀ (i : Nat) (_ : i < l.length), (AR l i).2 = 0
 op : ∀ (i : Nat) (hi : i < l.length), opZ l[i].kind l[i].val vars = 0
 typed : II l
 ends : (Aw l).2 = 0
theorem Te (l : List Fo) (vars : Int) : ∀ (m i : Nat), l.length = i + m → IX (l.drop i) vars = 0 → ∀ (q : Nat) (hq : q < l.length), i ≤ q → opZ l[q].kind l[q].val vars = 0
 | 0, i, h, _, q, hq, hi => by omega
 | m + 1, i, h, he, q, hq, hi => by
   rw [UQ l i (by omega)] at he
   by_cases c : opZ l[i].kind l[i].val vars ≠ 0
   · rw [if_pos c] at he; exact absurd he c
   · rw [if_neg c] at he
     by_cases e : q = i
     · subst e; exact Decidable.not_not.1 c
     · exact Te l vars m (i + 1) (by omega) he q hq (by omega)
theorem Q7 {l : List Fo} {vars : Int} (h : (Cp l vars).2 = 0) : LH l vars ∧ 0 ≤ vars ∧ vars ≤ 6 := by
 unfold Cp at h
 by_cases h1 : vars < 0 ∨ 6 < vars
 · rw [if_pos h1] at h; exact absurd h (by decide)
 rw [if_neg h1] at h
 by_cases h2 : (Aw l).2 ≠ 0
 · rw [if_pos h2] at h; exact absurd h h2
 rw [if_neg h2] at h
 by_cases h3 : IX l vars ≠ 0
 · rw [if_pos h3] at h; exact absurd h h3
 rw [if_neg h3] at h
 by_cases h4 : II l
 · obtain ⟨k1, k2, k3, k4, k5⟩ := Ct (l := l) (es := (Aw l).1) (Prod.ext rfl (Decidable.not_not.1 h2))
   exact ⟨⟨k1, k2, QQ (Decidable.not_not.1 h2), fun i hi => Te l vars l.length 0 (by omega) (Decidable.not_not.1 h3) i hi (Nat.zero_le _), h4, Decidable.not_not.1 h2⟩, by omega, by omega⟩
 · rw [if_neg h4] at h; exact absurd h (by decide)
theorem LH.kind {l : List Fo} {vars : Int} (g : LH l vars) {i : Nat} (hi : i < l.length) : 1 ≤ l[i].kind ∧ l[i].kind ≤ 12 ∧ (l[i].kind = 1 → -1000 ≤ l[i].val ∧ l[i].val ≤ 1000) ∧ (l[i].kind = 2 → 0 ≤ l[i].val ∧ l[i].val < vars) := by
 have h := g.op i hi
 unfold opZ at h
 by_cases c : ¬ okP l[i].kind
 · rw [if_pos c] at h; exact absurd h (by decide)
 rw [if_neg c] at h
 by_cases c2 : (l[i].kind = 1 ∧ (l[i].val < -1000 ∨ 1000 < l[i].val)) ∨ (l[i].kind = 2 ∧ (l[i].val < 0 ∨ vars ≤ l[i].val)) ∨ (2 < l[i].kind ∧ l[i].val ≠ 0)
 · rw [if_pos c2] at h; exact absurd h (by decide)
 omega
theorem LH.parts {l : List Fo} {vars : Int} (g : LH l vars) {i : Nat} (hi : i < l.length) :
 (np l i = 0 ∧ (AR l i).1 = (i : Int) + 1) ∨
 (np l i = 1 ∧ i + 1 < l.length ∧ (AR l i).1 = (AR l (i + 1 : Nat)).1) ∨
 (np l i = 2 ∧ i + 1 < l.length ∧ i + 1 < second l i ∧ second l i < l.length ∧ (AR l (i + 1 : Nat)).1 = (second l i : Nat) ∧ (AR l i).1 = (AR l (second l i : Nat)).1) := by
 have hk := Bq l i hi
 have he := Gw l i hi
 have hw := g.well i hi
 have wk := NX hi hw
 rw [if_neg (fun h => h wk)] at he
 have hb := D4 l[i].kind
 unfold np
 rw [hk]
 generalize hn : (partsOf l[i].kind).1 = n at he hb ⊢
 by_cases h0 : n = 0
 · subst h0
   rw [if_pos (by decide)] at he
   exact .inl ⟨rfl, by rw [he]⟩
 rw [if_neg (by omega)] at he
 obtain ⟨q1, q2, q3, q4, q5⟩ := FF hi hw (by omega)
 by_cases h1 : n = 1
 · subst h1
   refine .inr (.inl ⟨rfl, q1, ?_⟩)
   rw [he]; unfold AR; rw [Int.toNat_natCast]; rfl
 · have h2 : n = 2 := by omega
   subst h2
   obtain ⟨r1, r2⟩ := Fz hi hw hn
   refine .inr (.inr ⟨rfl, q1, q3, r1, q4, ?_⟩)
   have e := GF l (i + 1) 1 (by decide)
   rw [if_neg (fun h => h q2), q4] at e
   rw [he, show (1 : Int) + 2 - 1 = 1 + 1 by decide, show ((i : Int) + 1) = ((i + 1 : Nat) : Int) by omega, e]
   unfold AR; rw [Int.toNat_natCast]
inductive Stk (l : List Fo) (f : Nat → Int) : Nat → List Int → Prop where
 | nil {i : Nat} (h : l.length ≤ i) : Stk l f i []
 | cons {i : Nat} {S : List Int} (hi : i < l.length) (h : Stk l f (AR l i).1.toNat S) : Stk l f i (S ++ [f i])
theorem Stk.inv {l : List Fo} {f : Nat → Int} {i : Nat} {S : List Int} (h : Stk l f i S) (hi : i < l.length) : ∃ S', S = S' ++ [f i] ∧ Stk l f (AR l i).1.toNat S' := by
 cases h with
 | nil h => omega
 | cons _ h => exact ⟨_, rfl, h⟩
theorem Stk.fin {l : List Fo} {f : Nat → Int} {i : Nat} {S : List Int} (h : Stk l f i S) (hi : l.length ≤ i) : S = [] := by
 cases h with
 | nil h => rfl
 | cons h' _ => omega
theorem Oj {l : List Fo} {env : List Int} {i : Nat} (hi : i < l.length) (hk : C6 (BJ l i)) {v : Int} (h : Cs l env i = some v) : v = 0 ∨ v = 1 := by
 rw [Kl l env i hi, NJ] at h
 obtain ⟨a, _, h⟩ := Option.bind_eq_some_iff.1 h
 obtain ⟨b, _, h⟩ := Option.bind_eq_some_iff.1 h
 unfold ovr at h
 split at h
 · cases h
   unfold opV
   rw [if_neg (by omega), if_neg (by omega), if_neg (by omega), if_neg (by omega), if_neg (by omega)]
   split
   · split <;> simp
   split
   · split <;> simp
   split
   · split <;> simp
   split
   · split <;> simp
   split
   · split <;> simp
   split <;> simp
 · cases h
theorem ZR {l : List Fo} {env : List Int} {i : Nat} (hi : i < l.length) {v : Int} (h : Cs l env i = some v) : Ak v := by
 rw [Kl l env i hi, NJ] at h
 obtain ⟨a, _, h⟩ := Option.bind_eq_some_iff.1 h
 obtain ⟨b, _, h⟩ := Option.bind_eq_some_iff.1 h
 unfold ovr at h
 split at h
 · cases h; assumption
 · cases h
def wk (l : List Fo) (env : List Int) : Int × Int := match Cs l env 0 with | some n => (n, 0) | none => (0, 8)
def CM (l : List Fo) (env : List Int) : Int × Int :=
 if (Cp l env.length).2 ≠ 0 then (0, (Cp l env.length).2) else if ∀ v ∈ env, Ak v then wk l env else (0, 2)
end Go.Sp
