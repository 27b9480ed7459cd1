/- A bundle of this claim's own texts: K7 Ck Top. -/
import Derived.Test.YtniklgkoiaeipaaGreatDoorCards
import Derived.Test.YtniklgkoiaeipaaGreatDoorTie
import Derived.WalkKit
import Derived.ProofKit
import Derived.OpenShut
import Derived.Deep.DeepHandedRow
import Derived.Lib.LaidTab
import Derived.Test.YtniklgkoiaeipaaGreatDoorA17
import Derived.Test.YtniklgkoiaeipaaGreatDoorA22
import Derived.Test.YtniklgkoiaeipaaGreatDoorA34
namespace Go.Sp
open Go Go.Av
set_option linter.unusedVariables false
set_option linter.unusedSimpArgs false
theorem hldF_T {t : Tk} (h : holdsP t) : hldF t = true := hldF_iff.2 h
theorem hldF_F {t : Tk} (h : ¬ holdsP t) : hldF t = false := by
 cases e : hldF t with
 | false => rfl
 | true => exact absurd (hldF_iff.1 e) h
end Go.Sp
namespace Go.Proofs.YtniklgkoiaeipaaGreatDoor
open Go Go.Av Go.Sp
set_option linter.unusedVariables false
set_option linter.unusedSimpArgs false
set_option maxRecDepth 100000
set_option maxHeartbeats 4000000
theorem cal_ktask : Cal Tryz.prog 37 := Cal.of Tryz.func37 (by kernel_rfl) (by kernel_rfl)
theorem cal_kholds : Cal Tryz.prog 24 := Cal.of Tryz.func24 (by kernel_rfl) (by kernel_rfl)
theorem VerK (d : De) {f : List Fo} (hf : FoG f) : AC Tryz.prog GP 19 [tkA (tskG d f)] [] fun r h => ∃ v : List Int × List Int, r = .ret (.tup [vdA (hldF (tskG d f)) v.1 v.2, .int 0]) ∧ h = [] := by
 obtain ⟨e, he⟩ := explore_G d hf
 have hx : (exploreF (tskG d f)).2 = 0 := by rw [he]
 by_cases h : holdsP (tskG d f)
 · have hA := VCheck_holds (tskG d f) hx ((fair_holds he).2 h)
   rw [hldF_T h]
   exact hA.mono fun r hh hq => ⟨([], []), hq.1, hq.2⟩
 · have hA := VCheck_no (tskG d f) e he (Decidable.not_not.1 fun c => h ((fair_holds he).1 c))
   rw [hldF_F h]
   exact hA.mono fun r hh hq => by
    obtain ⟨v, h1, h2⟩ := hq
    exact ⟨(stS e.spots v.1.1, stS e.spots v.1.2), h1, h2⟩
theorem armXK7_1 {p q : Prop} (hp : p) (h : p → q := by
 apply cmp; (focus (first
  | ((with_reducible apply call0); (focus rfl); (focus exact cal_KModel); (focus exact hM); (focus rfl))
  | ((with_reducible apply je_call0); (focus rfl); (focus (decide +kernel)); (focus rfl); (focus exact cal_KModel); (focus exact hM); (focus rfl))
  | ((with_reducible apply call0); (focus rfl); (focus exact cal_KProps); (focus exact hP); (focus rfl))
  | ((with_reducible apply je_call0); (focus rfl); (focus (decide +kernel)); (focus rfl); (focus exact cal_KProps); (focus exact hP); (focus rfl))
  ))
 exact fun h => h) : q := h hp
theorem ktask (G : List (Nat × List D)) (d : De) (hd : DeOk d) (f : List Fo) : ACr Tryz.prog G 37 [deA d, .d (opsD f)] (tkA (tskG d f)) := by
 have hM := KModel G d hd
 have hP := KProps G
 refine AC_ofR (rs := [.cell 4 29]) Tryz.f37.ntmps Tryz.func37 rfl rfl rfl (by simp [Tryz.ntmps37]) fun W I => ?_
 all_goals haveI fA_ : FlagA := ⟨⟩
 all_goals haveI fH_ : FlagH := ⟨⟩
 repeat' (first
  | refine armXK7_1 ?_
  | exact True.intro
  | refine stp ?_
  | refine two ?_ ?_
  | refine allc fun c_ => ?_
  | (refine imp fun hc => ?_) <;> try exact cx1 hc
  | refine all fun v_ => ?_)
 all_goals clear fA_ fH_
 refine retr0 (xs := [tkA (tskG d f)]) ⟨rv_agg rfl (by (with_reducible exact ElC.h)) rfl (by exact memD) rfl, trivial⟩ rfl (h' := []) (List.nil_sublist _) (ret_eq rfl)
theorem armXK7_2 {p q : Prop} (hp : p) (h : p → q := by
 apply cmp; (focus (first
  | ((with_reducible apply call0); (focus rfl); (focus exact cal_ktask); (focus exact hT); (focus rfl))
  | ((with_reducible apply je_call0); (focus rfl); (focus (decide +kernel)); (focus rfl); (focus exact cal_ktask); (focus exact hT); (focus rfl))
  ))
 exact fun h => h) : q := h hp
theorem kholds (d : De) (hd : DeOk d) {f : List Fo} (hf : FoG f) : ACr Tryz.prog GP 24 [deA d, .d (opsD f)] (.tup [.bool (hldF (tskG d f)), .bool true]) := by
 have hT := ktask GP d hd f
 have hV := VerK d hf
 generalize hldF (tskG d f) = b at hV ⊢
 refine AC_ofV (ts := [4, 5]) Tryz.f24.ntmps Tryz.func24 rfl rfl rfl (by simp [Tryz.ntmps24]) fun W I => ?_
 all_goals haveI fA_ : FlagA := ⟨⟩
 all_goals haveI fH_ : FlagH := ⟨⟩
 repeat' (first
  | refine armXK7_2 ?_
  | ((with_reducible apply callG); (focus rfl); (focus exact cal_VCheck); (focus exact hV); (focus ((repeat (first | with_reducible exact Take.nil | ((with_reducible apply Take.cons); (focus ((repeat (first | with_reducible exact Sel.here | with_reducible apply Sel.there)); done))))); done)); (focus rfl); (focus (intro v_; (repeat (first | exact App.nil | apply App.cons)); done)))
  | exact True.intro
  | refine stp ?_
  | refine two ?_ ?_
  | refine allc fun c_ => ?_
  | (refine imp fun hc => ?_) <;> try exact cx1 hc
  | refine all fun v_ => ?_)
 all_goals clear fA_ fH_
 refine retv (VS.drop (List.nil_sublist _)) ?_
 ((with_reducible apply rq2); rfl; rfl; rfl)
 exact ret_eq rfl
theorem Join1 (G : List (Nat × List D)) (k : Int) (f : List Fo) (hl : f.length ≤ 500) : ACr Tryz.prog G 25 [.int k, .d (termsD [f])] (.d (opsD (⟨k, 0⟩ :: f))) := by
 have h := KJoined G k [f] (by simp; omega)
 rwa [List.flatten_cons, List.flatten_nil, List.append_nil] at h
theorem Join2 (G : List (Nat × List D)) (k : Int) (f g : List Fo) (hl : f.length + g.length ≤ 500) : ACr Tryz.prog G 25 [.int k, .d (termsD [f, g])] (.d (opsD (⟨k, 0⟩ :: (f ++ g)))) := by
 have h := KJoined G k [f, g] (by simp; omega)
 rwa [List.flatten_cons, List.flatten_cons, List.flatten_nil, List.append_nil] at h
end Go.Proofs.YtniklgkoiaeipaaGreatDoor
namespace Go.Proofs.YtniklgkoiaeipaaGreatDoor
open Go Go.Av Go.Sp
set_option linter.unusedVariables false
set_option linter.unusedSimpArgs false
set_option maxRecDepth 100000
set_option maxHeartbeats 4000000
theorem conf_Raw {g : Nat} {xs : List D} (h : Conf Tryz.prog (g + 2) 167 xs) : ∃ o : {o : Fo // inI64 o.kind ∧ inI64 o.val}, xs = o.1.cells := by
 obtain ⟨p0, p1, rfl, h0, h1⟩ := conf_struct2_of Tryz.underlying167 h
 obtain ⟨a, rfl, ha⟩ := conf_int64 h0
 obtain ⟨b, rfl, hb⟩ := conf_int64 h1
 exact ⟨⟨⟨a, b⟩, ha, hb⟩, rfl⟩
theorem conf_raws {g : Nat} {xs : List D} (h : Conf Tryz.prog (g + 3) 56 xs) : ∃ l : List Fo, xs = [opsD l] ∧ rawOk l := by
 obtain ⟨l, rfl, _⟩ := conf_slice_of (sz := 2) (eb := 16) Tryz.underlying56 (by kernel_rfl) (by kernel_rfl) (f := fun o : {o : Fo // inI64 o.kind ∧ inI64 o.val} => o.1.cells) (fun _ h => conf_Raw h) h
 refine ⟨l.map Subtype.val, by show _ = [D.l 2 16 ((l.map Subtype.val).map Fo.cells)]; rw [List.map_map]; rfl, fun o ho => ?_⟩
 obtain ⟨x, _, rfl⟩ := List.mem_map.1 ho
 exact x.2
theorem conf_Plan {g : Nat} {xs : List D} (h : Conf Tryz.prog (g + 4) 133 xs) : ∃ p : {p : Pl // rawOk p.guard ∧ inI64 p.var ∧ rawOk p.value}, xs = p.1.cells := by
 obtain ⟨p0, p1, p2, p3, rfl, h0, h1, h2, h3⟩ := conf_struct4_of Tryz.underlying133 h
 obtain ⟨a, rfl, ha⟩ := conf_raws h0
 obtain ⟨b, rfl, hb⟩ := conf_int64 h1
 obtain ⟨c, rfl, hc⟩ := conf_raws h2
 obtain ⟨e, rfl⟩ := conf_bool h3
 exact ⟨⟨⟨a, b, c, e⟩, ha, hb, hc⟩, rfl⟩
theorem conf_plans {g : Nat} {xs : List D} (h : Conf Tryz.prog (g + 5) 53 xs) : ∃ l : List Pl, xs = [plansD l] ∧ ∀ p ∈ l, rawOk p.guard ∧ inI64 p.var ∧ rawOk p.value := by
 obtain ⟨l, rfl, _⟩ := conf_slice_of (sz := 4) (eb := 64) Tryz.underlying53 (by kernel_rfl) (by kernel_rfl) (f := fun p : {p : Pl // rawOk p.guard ∧ inI64 p.var ∧ rawOk p.value} => p.1.cells) (fun _ h => conf_Plan h) h
 refine ⟨l.map Subtype.val, by show _ = [D.l 4 64 ((l.map Subtype.val).map Pl.cells)]; rw [List.map_map]; rfl, fun o ho => ?_⟩
 obtain ⟨x, _, rfl⟩ := List.mem_map.1 ho
 exact x.2
theorem conf_two {g : Nat} {xs : List D} (h : Conf Tryz.prog (g + 2) 52 xs) : ∃ a b : Int, xs = [.i .i64 a, .i .i64 b] ∧ inI64 a ∧ inI64 b := by
 obtain ⟨p0, p1, rfl, h0, h1⟩ := conf_array2_of Tryz.underlying52 h
 obtain ⟨a, rfl, ha⟩ := conf_int64 h0
 obtain ⟨b, rfl, hb⟩ := conf_int64 h1
 exact ⟨a, b, rfl, ha, hb⟩
theorem conf_Design {g : Nat} {xs : List D} (h : Conf Tryz.prog (g + 6) 55 xs) : ∃ d : De, xs = d.cells ∧ DeOk d := by
 obtain ⟨p0, p1, p2, p3, rfl, h0, h1, h2, h3⟩ := conf_struct4_of Tryz.underlying55 h
 obtain ⟨a, b, rfl, ha, hb⟩ := conf_two h0
 obtain ⟨c, e, rfl, hc, he⟩ := conf_two h1
 obtain ⟨i, j, rfl, hi, hj⟩ := conf_two h2
 obtain ⟨l, rfl, hl⟩ := conf_plans h3
 exact ⟨⟨a, b, c, e, i, j, l⟩, rfl, ha, hb, hc, he, hi, hj, hl⟩
end Go.Proofs.YtniklgkoiaeipaaGreatDoor
namespace Go.Proofs.YtniklgkoiaeipaaGreatDoor
open Go Go.Av Go.Sp Go.ChangeShapes Go.WideShapes Go.ChangeAt Go.RowKit
set_option linter.unusedVariables false
set_option linter.unusedSimpArgs false
set_option maxRecDepth 100000
set_option maxHeartbeats 4000000

abbrev laidRow := Rows.topNotRow
theorem own : ownKnob Tryz.prog.godebug = none := by kernel_rfl
theorem laidOutAll : laidOutB Tryz.prog = true := by kernel_rfl
theorem gTab : Tryz.prog.globalNamed "foretell/polish.parts" = some 0 := by kernel_rfl
theorem gTabType : (Tryz.prog.globals[0]?).map (·.type) = some 249 := by kernel_rfl
theorem cellsTab : Tryz.prog.cellsOf 249 = 19 := by kernel_rfl
theorem cellsInt : Tryz.prog.cellsOf 3 = 1 := by kernel_rfl
def partsZ : List Int := [-1, 0, 0, 2, 2, 2, 2, 2, 2, 2, 1, 0, 0, 0, 1, 2, 2, 1, 1]
theorem table {W : World} (h : laidMetH Tryz.prog laidRow.laid W) : Lib.TabIs Tryz.prog W "foretell/polish.parts" .i64 partsZ :=
 Lib.tabIs_of_head (rest := []) gTab gTabType Tryz.underlying249 Tryz.underlying3 cellsInt cellsTab h

theorem globPD {W : World} (h : laidMetH Tryz.prog laidRow.laid W) : ∀ q ∈ GP, PD W (fun b => b < W.heap.size) q.2 ⟨q.1, 0, none⟩ := by
 intro q hq
 obtain rfl : q = (0, partsT) := by simpa [GP] using hq
 have hc : ∀ (i : Nat) (hi : i < partsZ.length), W.cell? ⟨0, i, none⟩ = some (.int .i64 partsZ[i]) := fun i hi => by simpa [List.getElem?_eq_getElem hi] using (table h).cell gTab i hi
 refine ⟨World.block_lt_of_cell? _ _ (hc 0 (by decide)), fun u x hx => ?_⟩
 have hu : u < partsZ.length := by
  have := (List.getElem?_eq_some_iff.1 hx).1
  simpa [partsT, partsZ] using this
 have e : partsT[u]? = some (.i .i64 partsZ[u]) := by
  have : partsT = partsZ.map fun n => D.i .i64 n := rfl
  rw [this, List.getElem?_map, List.getElem?_eq_getElem hu]; rfl
 rw [e] at hx
 cases hx
 exact ⟨_, by rw [Addr.add_lit, Nat.zero_add]; exact hc u hu, .i _ _⟩

noncomputable def laidWorld (os : Os) : World :=
 { World.holding Tryz.prog os ⟨#[], #[], []⟩ with heap := (World.holding Tryz.prog os ⟨#[], #[], []⟩).heap.modify 0 fun
    | .cells _ t frozen => .cells (partsZ.map fun n => Value.int .i64 n).toArray t frozen
    | o => o }
end Go.Proofs.YtniklgkoiaeipaaGreatDoor
