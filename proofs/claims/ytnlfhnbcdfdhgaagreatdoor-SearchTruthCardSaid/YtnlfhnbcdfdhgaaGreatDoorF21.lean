/- A bundle of this claim's own texts: E10 N3 N7. -/
import Derived.Test.YtnlfhnbcdfdhgaaGreatDoorF1
import Derived.Test.YtnlfhnbcdfdhgaaGreatDoorF3
import Derived.Test.YtnlfhnbcdfdhgaaGreatDoorF4
import Derived.Test.YtnlfhnbcdfdhgaaGreatDoorF9
import Derived.Test.YtnlfhnbcdfdhgaaGreatDoorF10
import Derived.Test.YtnlfhnbcdfdhgaaGreatDoorF12
import Derived.Test.YtnlfhnbcdfdhgaaGreatDoorF15
import Derived.Test.YtnlfhnbcdfdhgaaGreatDoorF16
set_option linter.unusedVariables false
set_option linter.unusedSimpArgs false
set_option maxRecDepth 100000
set_option maxHeartbeats 4000000
namespace Go.Av
open Go Go.Instr

structure Qu where
 g : Nat
 off : Nat
 c : Nat
 pre : List AV
 post : List AV
abbrev Qu.v (q : Qu) (n : Nat) : Value := .slice (some ⟨q.g, q.off, none⟩) n q.c
structure Qu.Ok (q : Qu) (n : Nat) : Prop where
 pre : q.pre.length = q.off
 lo : n ≤ q.c
 hi : q.c ≤ n + q.post.length
section
variable {k : Kx} {Q : Exit → Env → H → Prop} {ρ : Env} {h h' : H} {ops : Array Oper} {l : List Oper} {d : Nat} {ty : TypeId} {pos : String} {after : Array Edge}
theorem Zs {T E : TypeId} {x : Operand} {a : Int} {z : Value} {eb : Nat} (h0 : evO ρ x = some (.int a)) (hT : k.P.underlying T = some (.slice E)) (he : El k.P E z 1 eb)
 (hd : Nat.blt d k.n = true) (hj : All fun q : Sl => JL k ops l Q ((d, .val q.v) :: ρ) (AH q.v E 1 Sp.Aa [a] :: h)) : JL k ops (⟨some d, .buildSlice T 1 #[(0, x)], ty, pos, after, none⟩ :: l) Q ρ h := by
 refine KJ (f := Sp.Aa) (ys := [a]) (xs := [x]) hT he (by decide) (by simp) rfl ?_ ?_ (fun _ => rfl) (by simp) hd ⟨fun v => Ii (h1 := []) rfl fun q e => by subst e; exact hj.get q⟩
 · simp only [List.map_cons, List.map_nil, AA h0]; rfl
 · intro x hx
   simp only [List.mem_cons, List.not_mem_nil, or_false] at hx
   rw [hx, AA h0]; rfl
end
end Go.Av
namespace Go.Proofs.YtnlfhnbcdfdhgaaGreatDoor
open Go Go.Av Go.Sp
theorem TB : Cal Tryz.prog 179 := Cal.of Tryz.func179 (by kernel_rfl) (by kernel_rfl)
theorem NS : Cal Tryz.prog 177 := Cal.of Tryz.func177 (by kernel_rfl) (by kernel_rfl)
theorem dL (G : List (Nat × List D)) (xs : List Int) : AC Tryz.prog G 179 [.d (AK xs)] [] fun r h => ∃ q : Sl, r = .ret (.val q.v) ∧ h = [AH q.v 3 1 Aa xs] := by
 refine AJ (ts := [2]) Tryz.f179.ntmps Tryz.func179 rfl rfl rfl (by simp [Tryz.ntmps179]) fun W I => ?_
 refine DB (t := 0) rfl fun hl => ?_
 repeat' (first
  | ((with_reducible apply Tr); (focus rfl); (focus rfl); (focus rfl); (focus rfl))
  | ((with_reducible apply (LD Aa)); (focus rfl); (focus (with_reducible exact ElC.h)); (focus rfl))
  | exact True.intro | refine AP ?_ | refine two ?_ ?_
  | (refine imp fun hc => ?_) <;> try exact cx hc
  | refine all fun v_ => ?_)
 · subst hc
   refine AN (VS.nilrow 3 1) ?_
   ((with_reducible apply rq1); rfl; rfl)
   exact ⟨Sl.nil, rfl, rfl⟩
 · refine A6 ?_
   ((with_reducible apply rq1); rfl; rfl)
   exact ⟨v_, rfl, rfl⟩
theorem after (m : Md) (hm : Ag m = 0) (r : Ru) (hr : r ∈ m.rules) (vs : List Int) (g : InV m vs) : ACr Tryz.prog GP 177 [mdA m, ruA r, .d (AK vs)] (.tup [.d (AK ((Ch m r vs).getD [])), .bool (Ch m r vs).isSome]) := by
 have gr := eU hm hr
 have hl6 := He (Be hm)
 have hln := g.len
 have hfew := gr.few
 have hG := Eval r.guard vs
 refine AJ (ts := [6, 7]) Tryz.f177.ntmps Tryz.func177 rfl rfl rfl (by simp [Tryz.ntmps177]) fun W I => ?_
 have hb := Ul (l := r.guard) (vs := vs) (by rw [hln]; exact gr.guard) (g.lim hm)
 by_cases h0 : CM r.guard vs ≠ (1, 0)
 · rw [N9 h0]
   rcases hb with hb | hb | hb
   · rw [hb] at hG
     dsimp only at hG
     repeat' (first
      | refine ca EC (hG) ?_
      | exact True.intro | refine AG ?_ | refine two ?_ ?_ | refine AF fun c_ => ?_
      | (refine imp fun hc => ?_) <;> try exact cx1 hc
      | refine all fun v_ => ?_)
     refine AN (VS.trans (VS.drop (List.nil_sublist _)) (EZ (t := 6) 1 8 rfl)) ?_
     ((with_reducible apply rq2); rfl; rfl; rfl)
     exact AB rfl
   · rw [hb] at hG
     dsimp only at hG
     repeat' (first
      | refine ca EC (hG) ?_
      | exact True.intro | refine AG ?_ | refine two ?_ ?_ | refine AF fun c_ => ?_
      | (refine imp fun hc => ?_) <;> try exact cx1 hc
      | refine all fun v_ => ?_)
     refine AN (VS.trans (VS.drop (List.nil_sublist _)) (EZ (t := 6) 1 8 rfl)) ?_
     ((with_reducible apply rq2); rfl; rfl; rfl)
     exact AB rfl
   · exact absurd hb h0
 replace h0 := Decidable.not_not.1 h0
 rw [h0] at hG
 dsimp only at hG
 repeat' (first
  | refine ca EC (hG) ?_
  | refine cae TB (dL _ _) ?_
  | exact True.intro | refine AG ?_ | refine two ?_ ?_ | refine AF fun c_ => ?_
  | (refine imp fun hc => ?_) <;> try exact cx1 hc
  | refine all fun v_ => ?_)
 rename_i bm br _
 refine AM (X := Nat) (fun i => [(2, .d (AK vs)), (3, .val (.pointer (some ⟨bm, 0, none⟩))), (10, .val v_.v), (32, .d (Tw r.sets)), (33, .int r.sets.length), (34, .int i)]) (fun i => [AH v_.v 3 1 Aa (Ce vs (r.sets.take i) vs), .cells bm 25 [.d (BT m.vars), .d (A2 m.rules)]]) (fun i => i ≤ r.sets.length ∧ ∀ s ∈ r.sets.take i, H5 m vs s) (fun i => r.sets.length - i) 0 ⟨Nat.zero_le _, fun s hs => (by cases hs)⟩ (VS.take (by exact AD) ?_) ?_
 · exact leD
 rintro i ⟨hi, hok⟩
 have hsl := EB vs (r.sets.take i) vs
 by_cases hil : i < r.sets.length
 · have hs := List.getElem_mem hil
   obtain ⟨a1, a2, a3⟩ := gr.sets _ hs
   have a4 : r.sets[i].var.toNat < m.vars.length := by omega
   have hE := Eval r.sets[i].val vs
   have hx := fun n e (he : CM r.sets[i].val vs = (n, e)) => Vg (m := m) (vs := vs) (s := r.sets[i]) (n := n) (e := e) he (by omega)
   have hn := Qh vs r.sets i hil
   generalize CM r.sets[i].val vs = p at hE hx hn
   obtain ⟨n, e⟩ := p
   have hx := hx n e rfl
   dsimp only at hE hn
   by_cases hgood : H5 m vs r.sets[i]
   · have hx := hx.1 hgood
     obtain ⟨rfl, x1, x2⟩ := hx
     repeat' (first
      | refine ca EC (hE) ?_
      | exact True.intro | refine AG ?_ | refine two ?_ ?_ | refine AF fun c_ => ?_
      | (refine imp fun hc => ?_) <;> try exact cx1 hc
      | refine all fun v_ => ?_)
     refine ⟨i + 1, ⟨by omega, fun s h => ?_⟩, by omega, ?_⟩
     · rw [List.take_succ_eq_append_getElem hil] at h
       rcases List.mem_append.1 h with h | h
       · exact hok s h
       · rw [List.mem_singleton.1 h]; exact hgood
     · rw [hn]
       refine VS.take (by exact AD) ?_
       exact leD
   · rw [TA hs hgood]
     by_cases x0 : e ≠ 0
     · repeat' (first
        | refine ca EC (hE) ?_
        | exact True.intro | refine AG ?_ | refine two ?_ ?_ | refine AF fun c_ => ?_
        | (refine imp fun hc => ?_) <;> try exact cx1 hc
        | refine all fun v_ => ?_)
       refine AN (VS.trans (VS.drop (List.nil_sublist _)) (EZ (t := 6) 1 8 rfl)) ?_
       ((with_reducible apply rq2); rfl; rfl; rfl)
       exact AB rfl
     replace x0 := Decidable.not_not.1 x0
     subst x0
     by_cases x1 : n < m.vars[r.sets[i].var.toNat].low
     · repeat' (first
        | refine ca EC (hE) ?_
        | exact True.intro | refine AG ?_ | refine two ?_ ?_ | refine AF fun c_ => ?_
        | (refine imp fun hc => ?_) <;> try exact cx1 hc
        | refine all fun v_ => ?_)
       refine AN (VS.trans (VS.drop (List.nil_sublist _)) (EZ (t := 6) 1 8 rfl)) ?_
       ((with_reducible apply rq2); rfl; rfl; rfl)
       exact AB rfl
     by_cases x2 : m.vars[r.sets[i].var.toNat].high < n
     · repeat' (first
        | refine ca EC (hE) ?_
        | exact True.intro | refine AG ?_ | refine two ?_ ?_ | refine AF fun c_ => ?_
        | (refine imp fun hc => ?_) <;> try exact cx1 hc
        | refine all fun v_ => ?_)
       refine AN (VS.trans (VS.drop (List.nil_sublist _)) (EZ (t := 6) 1 8 rfl)) ?_
       ((with_reducible apply rq2); rfl; rfl; rfl)
       exact AB rfl
     exact absurd (hx.2 ⟨rfl, by omega, by omega⟩) hgood
 obtain rfl : i = r.sets.length := by omega
 rw [List.take_length] at hok hsl ⊢
 rw [Q6 h0 hok]
 repeat' (first
  | exact True.intro | refine AG ?_ | refine two ?_ ?_ | refine AF fun c_ => ?_
  | (refine imp fun hc => ?_) <;> try exact cx1 hc
  | refine all fun v_ => ?_)
 refine AN (VS.trans (By (t := 6) (eb := 8) rfl rfl (fun x => rfl) (by omega)) (VS.drop (List.nil_sublist _))) ?_
 ((with_reducible apply rq2); rfl; rfl; rfl)
 exact AB rfl
theorem Q9 : Cal Tryz.prog 139 := Cal.of Tryz.func139 (by kernel_rfl) (by kernel_rfl)
theorem Wq : Cal Tryz.prog 86 := Cal.of Tryz.func86 (by kernel_rfl) (by kernel_rfl)
theorem fB (G : List (Nat × List D)) (q : Sl) (xs : List Int) (hb : xs.length < 4611686018427387904) : AC Tryz.prog G 143 [.val q.v] [AH q.v 3 1 Aa xs] fun e h => ∃ _ : Unit, e = .ret (.tup []) ∧ h = [AH q.v 3 1 Aa (A9 xs)] :=
 (bu G q xs hb).mono fun _ _ h => ⟨(), h.1, h.2⟩
theorem XO (G : List (Nat × List D)) (q : Sl) (xs : List Int) (hb : xs.length ≤ 1000000) : AC Tryz.prog G 178 [.val q.v] [AH q.v 3 1 Aa xs] fun e h => ∃ q' : Sl, e = .ret (.val q'.v) ∧ h = [AH q'.v 3 1 Aa (Lib.compact xs)] :=
 CompactI G q xs (by omega) (Qg xs _ (Nat.le_refl _))
theorem next (m : Md) (hm : Ag m = 0) (vs : List Int) (g : InV m vs) : AC Tryz.prog GP 139 [mdA m, .d (AK vs)] [] fun e h => ∃ q : Sl, e = .ret (.val q.v) ∧ h = [AH q.v 3 1 Aa (Lib.compact (A9 (CW m vs m.rules)))] := by
 have h12 := MA hm
 refine AJ (ts := [4]) Tryz.f139.ntmps Tryz.func139 rfl rfl rfl (by simp [Tryz.ntmps139]) fun W I => ?_
 repeat' (first
  | exact True.intro | refine AG ?_ | refine two ?_ ?_ | refine AF fun c_ => ?_
  | (refine imp fun hc => ?_) <;> try exact cx1 hc
  | refine all fun v_ => ?_)
 obtain ⟨bm, rfl⟩ : ∃ x, x = v_ := ⟨v_, rfl⟩
 refine F6 (E := 3) (sz := 1) Aa ?_
 refine AM (X := Nat × Sl) (fun y => [(1, .d (AK vs)), (2, .val (.pointer (some ⟨bm, 0, none⟩))), (5, .val y.2.v), (13, .d (A2 m.rules)), (14, .int m.rules.length), (15, .int y.1)]) (fun y => [AH y.2.v 3 1 Aa (CW m vs (m.rules.take y.1)), .cells bm 25 [.d (BT m.vars), .d (A2 m.rules)]]) (fun y => y.1 ≤ m.rules.length) (fun y => m.rules.length - y.1) (0, Sl.nil) (Nat.zero_le _) (VS.take (by exact AD) ?_) ?_
 · exact leD
 rintro ⟨i, q⟩ hi
 dsimp only at hi ⊢
 have hln := L1 m vs (m.rules.take i)
 rw [List.length_take] at hln
 by_cases hil : i < m.rules.length
 · have hr := List.getElem_mem hil
   have hA := after m hm _ hr vs g
   cases ho : Ch m m.rules[i] vs with
   | none =>
     have hs := QG hil ho
     rw [ho] at hA
     simp only [Option.getD_none, Option.isSome_none] at hA
     repeat' (first
      | refine ca NS (hA) ?_
      | exact True.intro | refine AG ?_ | refine two ?_ ?_ | refine AF fun c_ => ?_
      | (refine imp fun hc => ?_) <;> try exact cx1 hc
      | refine all fun v_ => ?_)
     refine ⟨(i + 1, q), by dsimp only; omega, by dsimp only; omega, VS.take (by dsimp only; rw [hs]; exact AD) ?_⟩
     exact leD
   | some out =>
     have hs := Ql hil ho
     rw [ho] at hA
     simp only [Option.getD_some, Option.isSome_some] at hA
     repeat' (first
      | refine ca NS (hA) ?_
      | refine ca QU (Code _ _) ?_
      | exact True.intro | refine AG ?_ | refine two ?_ ?_ | refine AF fun c_ => ?_
      | (refine imp fun hc => ?_) <;> try exact cx1 hc
      | refine all fun v_ => ?_)
     refine ⟨(i + 1, v_), by dsimp only; omega, by dsimp only; omega, VS.take (by dsimp only; rw [hs]; exact AD) ?_⟩
     exact leD
 obtain rfl : i = m.rules.length := by omega
 rw [List.take_length] at hln ⊢
 generalize CW m vs m.rules = cs at hln ⊢
 have hsl := PF cs
 repeat' (first
  | ((with_reducible apply As); (focus rfl); (focus exact DJ); (focus exact fB GP q cs (by omega)); (focus exact AW); (focus rfl); (focus exact BO))
  | ((with_reducible apply As); (focus rfl); (focus exact OE); (focus exact XO GP q (A9 cs) (by omega)); (focus exact AW); (focus rfl); (focus exact BO))
  | exact True.intro | refine AG ?_ | refine two ?_ ?_ | refine AF fun c_ => ?_
  | (refine imp fun hc => ?_) <;> try exact cx1 hc
  | refine all fun v_ => ?_)
 refine AN (VS.drop (h' := [AH v_.v 3 1 Aa (Lib.compact (A9 cs))]) (by exact HX)) ?_
 ((with_reducible apply rq1); rfl; rfl)
 exact ⟨v_, rfl, rfl⟩
theorem Next (m : Md) (code : Int) : ACr Tryz.prog GP 86 [mdA m, .int code] (.tup [.d (AK (EI m code).1), .int (EI m code).2]) := by
 have hV := ZM m code
 refine AJ (ts := [4, 5]) Tryz.f86.ntmps Tryz.func86 rfl rfl rfl (by simp [Tryz.ntmps86]) fun W I => ?_
 by_cases h1 : (CJ m code).2 ≠ 0
 · rw [Je h1]
   repeat' (first
    | refine ca Dm (hV) ?_
    | exact True.intro | refine AG ?_ | refine two ?_ ?_ | refine AF fun c_ => ?_
    | (refine imp fun hc => ?_) <;> try exact cx1 hc
    | refine all fun v_ => ?_)
   refine AN (VS.trans (VS.drop (List.nil_sublist _)) (EZ (t := 4) 1 8 rfl)) ?_
   ((with_reducible apply rq2); rfl; rfl; rfl)
   exact AB rfl
 rw [Lj (Decidable.not_not.1 h1)]
 obtain ⟨hm, c0, c1, hF⟩ := MM (Decidable.not_not.1 h1)
 have g := InV.vals hm c0 c1
 rw [hF] at hV
 dsimp only at hV
 clear h1
 have hN := next m hm _ g
 have hr := PN hm g
 obtain ⟨n, hn, n1, n2⟩ := FC hm
 rw [hn] at hr ⊢
 rw [N0 n _ hr] at hN
 generalize CW m (CQ m.vars code) m.rules = cs at hN hr ⊢
 have hul := RY n cs
 rw [Int.toNat_natCast]
 by_cases hcs : cs = []
 · subst hcs
   rw [XL] at hN hul
   rw [if_pos rfl]
   repeat' (first
    | refine ca Dm (hV) ?_
    | refine cae Q9 (hN) ?_
    | exact True.intro | refine AG ?_ | refine two ?_ ?_ | refine AF fun c_ => ?_
    | (refine imp fun hc => ?_) <;> try exact cx1 hc
    | refine all fun v_ => ?_)
   refine AN (VS.trans (By (t := 4) (eb := 8) rfl rfl (fun x => rfl) (by simp)) (VS.drop (List.nil_sublist _))) ?_
   ((with_reducible apply rq2); rfl; rfl; rfl)
   exact AB rfl
 · rw [if_neg hcs]
   have hu0 : 0 < (Hw n cs).length := by
    obtain ⟨x, hx⟩ := List.exists_mem_of_ne_nil _ hcs
    exact List.length_pos_of_mem ((RC hr x).2 hx)
   repeat' (first
    | refine ca Dm (hV) ?_
    | refine cae Q9 (hN) ?_
    | exact True.intro | refine AG ?_ | refine two ?_ ?_ | refine AF fun c_ => ?_
    | (refine imp fun hc => ?_) <;> try exact cx1 hc
    | refine all fun v_ => ?_)
   refine AN (VS.trans (By (t := 4) (eb := 8) rfl rfl (fun x => rfl) (by omega)) (VS.drop (List.nil_sublist _))) ?_
   ((with_reducible apply rq2); rfl; rfl; rfl)
   exact AB rfl
end Go.Proofs.YtnlfhnbcdfdhgaaGreatDoor
