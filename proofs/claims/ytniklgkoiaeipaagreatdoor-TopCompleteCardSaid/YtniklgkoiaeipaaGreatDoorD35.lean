/- A bundle of this claim's own texts: K7 N9 Cg K8 Ck Top W4. -/
import Derived.Test.YtniklgkoiaeipaaGreatDoorCards
import Derived.Test.YtniklgkoiaeipaaGreatDoorTie
import Derived.WalkKit
import Derived.ProofKit
import Derived.OpenShut
import Derived.Deep.DeepHandedRow
import Derived.Lib.LaidTab
import Derived.Test.YtniklgkoiaeipaaGreatDoorD2
import Derived.Test.YtniklgkoiaeipaaGreatDoorD3
import Derived.Test.YtniklgkoiaeipaaGreatDoorD8
import Derived.Test.YtniklgkoiaeipaaGreatDoorD14
import Derived.Test.YtniklgkoiaeipaaGreatDoorD17
import Derived.Test.YtniklgkoiaeipaaGreatDoorD21
import Derived.Test.YtniklgkoiaeipaaGreatDoorD22
import Derived.Test.YtniklgkoiaeipaaGreatDoorD23
import Derived.Test.YtniklgkoiaeipaaGreatDoorD29
import Derived.Test.YtniklgkoiaeipaaGreatDoorD34
set_option linter.unusedVariables false
set_option linter.unusedSimpArgs false
set_option maxRecDepth 100000
set_option maxHeartbeats 4000000
namespace Go.Sp
open Go Go.Av
theorem hldF_T {t : Tk} (h : holdsP t) : hldF t = true := hldF_iff.2 h
theorem hldF_F {t : Tk} (h : ¬ holdsP t) : hldF t = false := by
 cases e : hldF t with
 | false => rfl
 | true => exact absurd (hldF_iff.1 e) h
end Go.Sp
namespace Go.Proofs.YtniklgkoiaeipaaGreatDoor
open Go Go.Av Go.Sp
theorem cal_ktask : Cal Tryz.prog 37 := Cal.of Tryz.func37 (by kernel_rfl) (by kernel_rfl)
theorem cal_kholds : Cal Tryz.prog 24 := Cal.of Tryz.func24 (by kernel_rfl) (by kernel_rfl)
theorem cal_kprop : Cal Tryz.prog 29 := Cal.of Tryz.func29 (by kernel_rfl) (by kernel_rfl)
theorem cal_KTask : Cal Tryz.prog 32 := Cal.of Tryz.func32 (by kernel_rfl) (by kernel_rfl)
theorem VerK (d : De) {f : List Fo} (hf : FoG f) : AC Tryz.prog GP 19 [tkA (tskG d f)] [] fun r h => ∃ v : List Int × List Int, r = .ret (.tup [vdA (hldF (tskG d f)) v.1 v.2, .int 0]) ∧ h = [] := by
 obtain ⟨e, he⟩ := explore_G d hf
 have hx : (exploreF (tskG d f)).2 = 0 := by rw [he]
 by_cases h : holdsP (tskG d f)
 · have hA := VCheck_holds (tskG d f) hx ((fair_holds he).2 h)
   rw [hldF_T h]
   exact hA.mono fun r hh hq => ⟨([], []), hq.1, hq.2⟩
 · have hA := VCheck_no (tskG d f) e he (Decidable.not_not.1 fun c => h ((fair_holds he).1 c))
   rw [hldF_F h]
   exact hA.mono fun r hh hq => by
    obtain ⟨v, h1, h2⟩ := hq
    exact ⟨(stS e.spots v.1.1, stS e.spots v.1.2), h1, h2⟩
theorem armXK7_1 {p q : Prop} (hp : p) (h : p → q := by
 apply cmp; (focus (first
  | ((with_reducible apply call0); (focus rfl); (focus exact cal_KModel); (focus exact hM); (focus rfl))
  | ((with_reducible apply je_call0); (focus rfl); (focus (decide +kernel)); (focus rfl); (focus exact cal_KModel); (focus exact hM); (focus rfl))
  | ((with_reducible apply call0); (focus rfl); (focus exact cal_KProps); (focus exact hP); (focus rfl))
  | ((with_reducible apply je_call0); (focus rfl); (focus (decide +kernel)); (focus rfl); (focus exact cal_KProps); (focus exact hP); (focus rfl))
  ))
 exact fun h => h) : q := h hp
theorem ktask (G : List (Nat × List D)) (d : De) (hd : DeOk d) (f : List Fo) : ACr Tryz.prog G 37 [deA d, .d (opsD f)] (tkA (tskG d f)) := by
 have hM := KModel G d hd
 have hP := KProps G
 refine AC_ofR (rs := [.cell 4 29]) Tryz.f37.ntmps Tryz.func37 rfl rfl rfl (by simp [Tryz.ntmps37]) fun W I => ?_
 repeat' (first
  | refine armXK7_1 ?_
  | exact True.intro | refine stpH ?_ | refine two ?_ ?_ | refine allc fun c_ => ?_
  | (refine imp fun hc => ?_) <;> try exact cx1 hc
  | refine all fun v_ => ?_)
 refine retr0 (xs := [tkA (tskG d f)]) ⟨rv_agg rfl (by (with_reducible exact ElC.h)) rfl (by exact memD) rfl, trivial⟩ rfl (h' := []) (List.nil_sublist _) (ret_eq rfl)
theorem armXK7_2 {p q : Prop} (hp : p) (h : p → q := by
 apply cmp; (focus (first
  | ((with_reducible apply call0); (focus rfl); (focus exact cal_ktask); (focus exact hT); (focus rfl))
  | ((with_reducible apply je_call0); (focus rfl); (focus (decide +kernel)); (focus rfl); (focus exact cal_ktask); (focus exact hT); (focus rfl))
  ))
 exact fun h => h) : q := h hp
theorem kholds (d : De) (hd : DeOk d) {f : List Fo} (hf : FoG f) : ACr Tryz.prog GP 24 [deA d, .d (opsD f)] (.tup [.bool (hldF (tskG d f)), .bool true]) := by
 have hT := ktask GP d hd f
 have hV := VerK d hf
 generalize hldF (tskG d f) = b at hV ⊢
 refine AC_ofV (ts := [4, 5]) Tryz.f24.ntmps Tryz.func24 rfl rfl rfl (by simp [Tryz.ntmps24]) fun W I => ?_
 repeat' (first
  | refine armXK7_2 ?_
  | ((with_reducible apply callG); (focus rfl); (focus exact cal_VCheck); (focus exact hV); (focus exact takeD); (focus rfl); (focus exact appD))
  | exact True.intro | refine stpH ?_ | refine two ?_ ?_ | refine allc fun c_ => ?_
  | (refine imp fun hc => ?_) <;> try exact cx1 hc
  | refine all fun v_ => ?_)
 refine retv (VS.drop (List.nil_sublist _)) ?_
 ((with_reducible apply rq2); rfl; rfl; rfl)
 exact ret_eq rfl
theorem armXK7_3 {p q : Prop} (hp : p) (h : p → q := by
 apply cmp; (focus (first
  | ((with_reducible apply call0); (focus rfl); (focus exact cal_Picked); (focus exact hP); (focus rfl))
  | ((with_reducible apply je_call0); (focus rfl); (focus (decide +kernel)); (focus rfl); (focus exact cal_Picked); (focus exact hP); (focus rfl))
  ))
 exact fun h => h) : q := h hp
theorem kprop (G : List (Nat × List D)) (n : Int) (hn : inI64 n) : ACr Tryz.prog G 29 [.int n] (.d (opsD [⟨13, pk n 3⟩])) := by
 have hP := Picked G n 3 (by decide) hn
 refine AC_ofV (ts := [2]) Tryz.f29.ntmps Tryz.func29 rfl rfl rfl (by simp [Tryz.ntmps29]) fun W I => ?_
 repeat' (first
  | refine armXK7_3 ?_
  | exact True.intro | refine stpH ?_ | refine two ?_ ?_ | refine allc fun c_ => ?_
  | (refine imp fun hc => ?_) <;> try exact cx1 hc
  | refine all fun v_ => ?_)
 refine retv0 ?_
 ((with_reducible apply rq1); rfl; rfl)
 exact ret_eq rfl
theorem Join1 (G : List (Nat × List D)) (k : Int) (f : List Fo) (hl : f.length ≤ 500) : ACr Tryz.prog G 25 [.int k, .d (termsD [f])] (.d (opsD (⟨k, 0⟩ :: f))) := by
 have h := KJoined G k [f] (by simp; omega)
 rwa [List.flatten_cons, List.flatten_nil, List.append_nil] at h
theorem armXK7_4 {p q : Prop} (hp : p) (h : p → q := by
 apply cmp; (focus (first
  | ((with_reducible apply call0); (focus rfl); (focus exact cal_KModel); (focus exact hM); (focus rfl))
  | ((with_reducible apply je_call0); (focus rfl); (focus (decide +kernel)); (focus rfl); (focus exact cal_KModel); (focus exact hM); (focus rfl))
  | ((with_reducible apply call0); (focus rfl); (focus exact cal_kprops); (focus exact hP); (focus rfl))
  | ((with_reducible apply je_call0); (focus rfl); (focus (decide +kernel)); (focus rfl); (focus exact cal_kprops); (focus exact hP); (focus rfl))
  | ((with_reducible apply call0); (focus rfl); (focus exact cal_KFormula); (focus exact hF); (focus rfl))
  | ((with_reducible apply je_call0); (focus rfl); (focus (decide +kernel)); (focus rfl); (focus exact cal_KFormula); (focus exact hF); (focus rfl))
  ))
 exact fun h => h) : q := h hp
theorem KTask (G : List (Nat × List D)) (d : De) (hd : DeOk d) (raw : List Fo) (hr : rawOk raw) (t : Nat) (ht : t ≤ 100) : ACr Tryz.prog G 32 [deA d, .d (opsD raw), .int t] (tkA (tskG d (formG raw t))) := by
 have hM := KModel G d hd
 have hP := kprops G
 have hF := KFormula G raw hr t ht
 refine AC_ofR (rs := [.cell 6 29]) Tryz.f32.ntmps Tryz.func32 rfl rfl rfl (by simp [Tryz.ntmps32]) fun W I => ?_
 repeat' (first
  | refine armXK7_4 ?_
  | exact True.intro | refine stpH ?_ | refine two ?_ ?_ | refine allc fun c_ => ?_
  | (refine imp fun hc => ?_) <;> try exact cx1 hc
  | refine all fun v_ => ?_)
 refine retr0 (xs := [tkA (tskG d (formG raw t))]) ⟨rv_agg rfl (by (with_reducible exact ElC.h)) rfl (by exact memD) rfl, trivial⟩ rfl (h' := []) (List.nil_sublist _) (ret_eq rfl)
end Go.Proofs.YtniklgkoiaeipaaGreatDoor
namespace Go.Av
open Go
section
variable {k : Kx} {Q : Exit → Env → H → Prop} {ρ : Env} {h h' : H} {ops : Array Oper} {l : List Oper} {ty : TypeId} {pos : String} {after : Array Edge}
theorem js_insS {α : Type} [DecidableEq α] {kd : TypeDesc} {kv : α → Value} (K : KeyK kd kv) {T KT ET : TypeId} {x y u : Operand} {b : Nat} {xs : List α} {a : α}
 (hx : evO ρ x = some (.val (.map (some b)))) (hy : evO ρ y = some (.val (kv a))) (hv : evO ρ u = some (.agg [])) (hT : k.P.underlying T = some (.map KT ET)) (hK : k.P.underlying KT = some kd)
 (hu : Upd (.raw b (setO kv xs)) (.raw b (setO kv (xs ++ [a]))) h h') (hno : a ∉ xs)
 (hj : JL k ops l Q ρ h') : JL k ops (⟨none, .insert T x y u, ty, pos, after, none⟩ :: l) Q ρ h := by
 have hno' : getM (xs.map fun x => (x, ())) a = none := getM_no fun p hp => by
  obtain ⟨x, hx, rfl⟩ := List.mem_map.1 hp
  exact fun e => hno (by subst e; exact hx)
 have hu' : Upd (.raw b (mapO (entL kv (fun _ : Unit => .agg #[]) (xs.map fun x => (x, ()))))) (.raw b (mapO (entL kv (fun _ : Unit => .agg #[]) (xs.map (fun x => (x, ())) ++ [(a, ())])))) h h' := by
  have := hu
  unfold setO at this
  rwa [List.map_append] at this
 refine js_insMr K hx hy hv (fun w I v hr => ?_) hT hK hu' hno' hj
 obtain ⟨vs, e, r⟩ := hr
 cases vs with
 | nil => exact e
 | cons _ _ => exact r.elim
end
end Go.Av
namespace Go.Proofs.YtniklgkoiaeipaaGreatDoor
open Go Go.Av Go.Sp
theorem cal_Reach : Cal Tryz.prog 27 := Cal.of Tryz.func27 (by kernel_rfl) (by kernel_rfl)
theorem armXN9_1 {p q : Prop} (hp : p) (h : p → q := by
 apply cmp; (focus (first
  | ((with_reducible apply call0); (focus rfl); (focus exact cal_First); (focus exact hF); (focus rfl))
  | ((with_reducible apply je_call0); (focus rfl); (focus (decide +kernel)); (focus rfl); (focus exact cal_First); (focus exact hF); (focus rfl))
  ))
 exact fun h => h) : q := h hp
theorem armXN9_2 {p q : Prop} (hp : p) (h : p → q := by
 apply cmp; (focus (first
  | ((with_reducible apply call0); (focus rfl); (focus exact cal_Next); (focus exact hN); (focus rfl))
  | ((with_reducible apply je_call0); (focus rfl); (focus (decide +kernel)); (focus rfl); (focus exact cal_Next); (focus exact hN); (focus rfl))
  ))
 exact fun h => h) : q := h hp
theorem Reach (m : Md) : ACr Tryz.prog GP 27 [mdA m] (.tup [.d (intsD (reachF m).1), .int (reachF m).2]) := by
 have hF := First m
 refine AC_ofV (ts := [2, 3]) Tryz.f27.ntmps Tryz.func27 rfl rfl rfl (by simp [Tryz.ntmps27]) fun W I => ?_
 unfold reachF
 by_cases h0 : modelF m ≠ 0
 · have hc : codeF m (inits m) = (0, modelF m) := by unfold codeF; rw [if_pos h0]
   rw [hc] at hF
   rw [if_pos h0]
   dsimp only at hF ⊢
   generalize modelF m = e at hF h0 ⊢
   repeat' (first
    | refine armXN9_1 ?_
    | exact True.intro | refine stpH ?_ | refine two ?_ ?_ | refine allc fun c_ => ?_
    | (refine imp fun hc => ?_) <;> try exact cx1 hc
    | refine all fun v_ => ?_)
   refine retv (VS.trans (VS.drop (List.nil_sublist _)) (vnil (t := 2) 1 8 rfl)) ?_
   ((with_reducible apply rq2); rfl; rfl; rfl)
   exact ret_eq rfl
 rw [if_neg h0]
 replace h0 := Decidable.not_not.1 h0
 obtain ⟨n, hn, n1, n2⟩ := states_nat h0
 obtain ⟨f1, f2, f3⟩ := first_ok h0
 have hF : ACr Tryz.prog GP 36 [mdA m] (.tup [.int (firstF m), .int 0]) := by
  rw [f1] at hF; exact hF
 rw [hn, Int.toNat_natCast]
 have hS := RM.start h0 hn
 generalize hfm : firstF m = fst at hF hS
 repeat' (first
  | refine armXN9_1 ?_
  | ((with_reducible apply (jmkset (Value.int .i64))); (focus rfl))
  | ((with_reducible apply jp); (focus ((with_reducible apply (pu_lookS (keyK_int .i64))); rfl; rfl; rfl; rfl; (focus (with_reducible exact ElC.h)); (focus exact memD))); (focus rfl))
  | ((with_reducible apply (js_putS (keyK_int .i64))); (focus rfl); (focus rfl); (focus rfl); (focus rfl); (focus rfl); (focus exact updD); (focus assumption))
  | exact True.intro | refine stpH ?_ | refine two ?_ ?_ | refine allc fun c_ => ?_
  | (refine imp fun hc => ?_) <;> try exact cx1 hc
  | refine all fun v_ => ?_)
 refine js_insS (kv := Value.int .i64) (a := fst) (keyK_int .i64) rfl rfl rfl rfl rfl (by exact updD) List.not_mem_nil ?_
 repeat (first | with_reducible refine tq_normal ?_ | with_reducible refine J_seq ?_ | with_reducible refine J_region ?_ | with_reducible refine JL_nil ?_ | refine jp (pu_move rfl) rfl ?_ | refine jp (pu_assign rfl) rfl ?_)
 refine jrow_i1 (a := fst) rfl rfl (by (with_reducible exact ElC.h)) rfl ?_
 repeat' (first
  | refine armXN9_1 ?_
  | ((with_reducible apply (jmkset (Value.int .i64))); (focus rfl))
  | ((with_reducible apply jp); (focus ((with_reducible apply (pu_lookS (keyK_int .i64))); rfl; rfl; rfl; rfl; (focus (with_reducible exact ElC.h)); (focus exact memD))); (focus rfl))
  | ((with_reducible apply (js_putS (keyK_int .i64))); (focus rfl); (focus rfl); (focus rfl); (focus rfl); (focus rfl); (focus exact updD); (focus assumption))
  | exact True.intro | refine stpH ?_ | refine two ?_ ?_ | refine allc fun c_ => ?_
  | (refine imp fun hc => ?_) <;> try exact cx1 hc
  | refine all fun v_ => ?_)
 obtain ⟨q0, rfl⟩ : ∃ x, x = v_ := ⟨v_, rfl⟩
 obtain ⟨bs, rfl⟩ : ∃ x, x = v_ := ⟨v_, rfl⟩
 obtain ⟨bm, rfl⟩ : ∃ x, x = v_ := ⟨v_, rfl⟩
 refine J_loopV (X := Nat × Sl × List Int) (fun y => [(1, .val (.pointer (some ⟨bm, 0, none⟩))), (6, .val (.map (some bs))), (7, .val y.2.1.v), (8, .int y.1)]) (fun y => [rowE y.2.1.v 3 1 intC y.2.2, .raw bs (setO (Value.int .i64) y.2.2), .cells bm 25 [.d (varsD m.vars), .d (rulesD m.rules)]]) (fun y => y.1 ≤ y.2.2.length ∧ RM m n y.1 y.2.2) (fun y => n - y.1) (0, q0, [fst]) ⟨Nat.zero_le _, hS⟩ (VS.take (by exact takedD) ?_) ?_
 · exact leD
 rintro ⟨i, q, xs⟩ ⟨hi, hr⟩
 dsimp only at hi hr ⊢
 have hlen := hr.len
 by_cases hil : i < xs.length
 · have hN := Next m xs[i]
   have hnx := hr.next hil
   have hadd : ∀ ys y, RM m n i ys → (h : i < ys.length) → ys[i] = xs[i] → y ∈ (nextF m xs[i]).1 → y ∉ ys → RM m n i (ys ++ [y]) := fun ys y r h e hy hno => r.add h0 hn h (by rw [e]; exact hy) hno
   have hfin : ∀ ys, RM m n i ys → (h : i < ys.length) → ys[i] = xs[i] → (∀ y ∈ (nextF m xs[i]).1, y ∈ ys) → RM m n (i + 1) ys := fun ys r h e hy => r.next h (by rw [e]; exact hy)
   clear hnx
   generalize nextF m xs[i] = p at hN hadd hfin
   obtain ⟨ns, e⟩ := p
   dsimp only at hN hadd hfin
   repeat' (first
    | refine armXN9_2 ?_
    | exact True.intro | refine stpH ?_ | refine two ?_ ?_ | refine allc fun c_ => ?_
    | (refine imp fun hc => ?_) <;> try exact cx1 hc
    | refine all fun v_ => ?_)
   refine jfact (t := 44) rfl fun hnl => ?_
   refine J_loopV (X := Nat × Sl × List Int) (fun y => [(1, .val (.pointer (some ⟨bm, 0, none⟩))), (6, .val (.map (some bs))), (7, .val y.2.1.v), (8, .int i), (44, .d (intsD ns)), (45, .int ns.length), (46, .int y.1)]) (fun y => [rowE y.2.1.v 3 1 intC y.2.2, .raw bs (setO (Value.int .i64) y.2.2), .cells bm 25 [.d (varsD m.vars), .d (rulesD m.rules)]]) (fun y => y.1 ≤ ns.length ∧ RM m n i y.2.2 ∧ (∃ h : i < y.2.2.length, y.2.2[i] = xs[i]) ∧ ∀ z ∈ ns.take y.1, z ∈ y.2.2) (fun y => ns.length - y.1) (0, q, xs) ⟨Nat.zero_le _, hr, ⟨hil, rfl⟩, fun z hz => (by cases hz)⟩ (VS.take (by exact takedD) ?_) ?_
   · exact leD
   rintro ⟨k, q, ys⟩ ⟨hk, hry, ⟨hiy, hye⟩, hin⟩
   dsimp only at hk hry hiy hye hin ⊢
   have hylen := hry.len
   by_cases hkl : k < ns.length
   · have htk : ∀ z, z ∈ ns.take (k + 1) → z ∈ ns.take k ∨ z = ns[k] := fun z h => by
      rw [List.take_succ_eq_append_getElem hkl] at h
      rcases List.mem_append.1 h with h | h
      · exact .inl h
      · exact .inr (List.mem_singleton.1 h)
     by_cases hm : ns[k] ∈ ys
     · repeat' (first
        | ((with_reducible apply (jmkset (Value.int .i64))); (focus rfl))
        | ((with_reducible apply jp); (focus ((with_reducible apply (pu_lookS (keyK_int .i64))); rfl; rfl; rfl; rfl; (focus (with_reducible exact ElC.h)); (focus exact memD))); (focus rfl))
        | ((with_reducible apply (js_putS (keyK_int .i64))); (focus rfl); (focus rfl); (focus rfl); (focus rfl); (focus rfl); (focus exact updD); (focus assumption))
        | exact True.intro | refine stpH ?_ | refine two ?_ ?_ | refine allc fun c_ => ?_
        | (refine imp fun hc => ?_) <;> try exact cx1 hc
        | refine all fun v_ => ?_)
       refine ⟨(k + 1, q, ys), ⟨by dsimp only; omega, hry, ⟨hiy, hye⟩, fun z hz => ?_⟩, by dsimp only; omega, VS.take (by exact takedD) ?_⟩
       · rcases htk z hz with h | rfl
         · exact hin z h
         · exact hm
       · exact leD
     · have hr2 := hadd ys ns[k] hry hiy hye (List.getElem_mem hkl) hm
       repeat' (first
        | ((with_reducible apply (jmkset (Value.int .i64))); (focus rfl))
        | ((with_reducible apply jp); (focus ((with_reducible apply (pu_lookS (keyK_int .i64))); rfl; rfl; rfl; rfl; (focus (with_reducible exact ElC.h)); (focus exact memD))); (focus rfl))
        | ((with_reducible apply (js_putS (keyK_int .i64))); (focus rfl); (focus rfl); (focus rfl); (focus rfl); (focus rfl); (focus exact updD); (focus assumption))
        | exact True.intro | refine stpH ?_ | refine two ?_ ?_ | refine allc fun c_ => ?_
        | (refine imp fun hc => ?_) <;> try exact cx1 hc
        | refine all fun v_ => ?_)
       refine ⟨(k + 1, v_, ys ++ [ns[k]]), ⟨by dsimp only; omega, hr2, ⟨by simp; omega, by dsimp only; rw [List.getElem_append_left hiy]; exact hye⟩, fun z hz => ?_⟩, by dsimp only; omega, VS.take (by exact takedD) ?_⟩
       · rcases htk z hz with h | rfl
         · exact List.mem_append_left _ (hin z h)
         · exact List.mem_append_right _ (List.mem_singleton.2 rfl)
       · exact leD
   obtain rfl : k = ns.length := by omega
   rw [List.take_length] at hin
   have hr3 := hfin ys hry hiy hye hin
   repeat' (first
    | exact True.intro | refine stpH ?_ | refine two ?_ ?_ | refine allc fun c_ => ?_
    | (refine imp fun hc => ?_) <;> try exact cx1 hc
    | refine all fun v_ => ?_)
   refine ⟨(i + 1, q, ys), ⟨by dsimp only; omega, hr3⟩, by dsimp only; omega, VS.take (by exact takedD) ?_⟩
   exact leD
 have hfin := hr.fin h0 (by omega)
 repeat' (first
  | ((with_reducible apply callG); (focus rfl); (focus exact cal_SortI); (focus exact SortU GP q xs (by omega)); (focus exact takeD); (focus rfl); (focus exact appD))
  | exact True.intro | refine stpH ?_ | refine two ?_ ?_ | refine allc fun c_ => ?_
  | (refine imp fun hc => ?_) <;> try exact cx1 hc
  | refine all fun v_ => ?_)
 rw [hfin]
 have hrl : (reachL m n).length ≤ n := by rw [← hfin, sortI_length]; exact hlen
 refine retv (VS.trans (vfreeze (t := 2) (eb := 8) rfl rfl (fun x => rfl) (by omega)) (VS.drop (List.nil_sublist _))) ?_
 ((with_reducible apply rq2); rfl; rfl; rfl)
 exact ret_eq rfl
def lettC (l : List Bool) : List D := [boolsD l]
abbrev lettD (l : List (List Bool)) : D := .l 1 24 (l.map lettC)
structure Wd where
 stem : List (List Bool)
 loop : List (List Bool)
abbrev wdA (w : Wd) : AV := .agg [.d (lettD w.stem), .d (lettD w.loop)]
end Go.Proofs.YtniklgkoiaeipaaGreatDoor
namespace Go.Av
open Go
theorem rq4 {Q : AE → H → Prop} {e : Exit} {ρ : Env} {h : H} {a b c d : Nat} {x y z u : AV} (he : retE e = true) (h1 : getO ρ a = some x) (h2 : getO ρ b = some y) (h3 : getO ρ c = some z) (h4 : getO ρ d = some u) (hq : Q (.ret (.tup [x, y, z, u])) h) : retQ [a, b, c, d] Q e ρ h :=
 rq_of he (by simp only [resAV, List.map_cons, List.map_nil, get_of_getO h1, get_of_getO h2, get_of_getO h3, get_of_getO h4]; exact hq)
end Go.Av
namespace Go.Sp
open Go Go.Av
def manyG (d : De) : Nat := (prodV (modG d).vars).toNat
theorem manyG_eq (d : De) : prodV (modG d).vars = (manyG d : Int) ∧ 1 ≤ manyG d ∧ manyG d ≤ 16 := by
 have := prodV_G d
 unfold manyG
 omega
noncomputable def letsG (d : De) (k : Nat) : List (List Bool) := (List.range k).map fun c : Nat => lettF (tskG d []) c
noncomputable def nxtG (d : De) (k : Nat) : List (List Int) := (List.range k).map fun c : Nat => (nextF (modG d) c).1
theorem letsG_succ (d : De) (k : Nat) : letsG d (k + 1) = letsG d k ++ [lettF (tskG d []) k] := by simp [letsG, List.range_succ]
theorem nxtG_succ (d : De) (k : Nat) : nxtG d (k + 1) = nxtG d k ++ [(nextF (modG d) k).1] := by simp [nxtG, List.range_succ]
theorem letsG_len (d : De) (k : Nat) : (letsG d k).length = k := by simp [letsG]
theorem nxtG_len (d : De) (k : Nat) : (nxtG d k).length = k := by simp [nxtG]
theorem letsG_get (d : De) (i : Nat) (h : i < (letsG d (manyG d)).length) : (letsG d (manyG d))[i] = lettF (tskG d []) i := by simp [letsG]
def allB (f : Int → Bool) (l : List Int) : Bool := l.all f
theorem allB_take (f : Int → Bool) (l : List Int) (i : Nat) (h : i < l.length) : allB f (l.take (i + 1)) = (allB f (l.take i) && f l[i]) := by
 unfold allB
 rw [List.take_succ_eq_append_getElem h, List.all_append]
 simp
theorem countF_G (d : De) : countF (modG d) = ((manyG d : Int), 0) := by
 unfold countF
 rw [if_neg (fun c => c (modelF_G d)), (manyG_eq d).1]
theorem letF_G (d : De) {c : Int} (h0 : 0 ≤ c) (h1 : c < manyG d) : letF (modG d) propsG c = (lettF (tskG d []) c, 0) := by
 have h := lettF_ok (t := tskG d [⟨11, 0⟩]) (taskF_G d FoG.yes) h0 (by show c < prodV (modG d).vars; rw [(manyG_eq d).1]; exact h1)
 exact h
theorem lettF_3 (d : De) (c : Int) : (lettF (tskG d []) c).length = 3 := by rw [lettF_len]; rfl
theorem valsF_G (d : De) {c : Int} (h0 : 0 ≤ c) (h1 : c < manyG d) : (valsF (modG d) c).2 = 0 := by
 unfold valsF
 rw [if_neg (fun k => k (modelF_G d)), if_pos ⟨h0, by rw [(manyG_eq d).1]; exact h1⟩]
theorem nextF_G (d : De) {c : Int} (h0 : 0 ≤ c) (h1 : c < manyG d) : nextF (modG d) c = ((nextF (modG d) c).1, 0) ∧ 1 ≤ (nextF (modG d) c).1.length ∧ (nextF (modG d) c).1.length ≤ 16 ∧ ∀ x ∈ (nextF (modG d) c).1, 0 ≤ x ∧ x < manyG d := by
 have hm := modelF_G d
 have hp := manyG_eq d
 have hne := nextF_ne hm h0 (by rw [hp.1]; exact h1)
 have e2 : (nextF (modG d) c).2 = 0 := by rw [nextF_ok (valsF_G d h0 h1)]
 have hr := nextF_range hm c
 rw [hp.1] at hr
 refine ⟨Prod.ext rfl e2, List.length_pos_iff.2 hne, ?_, hr⟩
 rw [nextF_ok (valsF_G d h0 h1)]
 dsimp only
 split
 · simp
 · have := upTo_len (prodV (modG d).vars).toNat (codesL (modG d) (valsT (modG d).vars c) (modG d).rules)
   have h2 : (prodV (modG d).vars).toNat = manyG d := rfl
   omega
end Go.Sp
namespace Go.Proofs.YtniklgkoiaeipaaGreatDoor
open Go Go.Av Go.Sp
theorem cal_kletters : Cal Tryz.prog 69 := Cal.of Tryz.func69 (by kernel_rfl) (by kernel_rfl)
theorem cal_knexts : Cal Tryz.prog 70 := Cal.of Tryz.func70 (by kernel_rfl) (by kernel_rfl)
theorem cal_kworld : Cal Tryz.prog 26 := Cal.of Tryz.func26 (by kernel_rfl) (by kernel_rfl)
theorem armXK8_1 {p q : Prop} (hp : p) (h : p → q := by
 apply cmp; (focus (first
  | ((with_reducible apply call0); (focus rfl); (focus exact cal_Count); (focus exact hC); (focus rfl))
  | ((with_reducible apply je_call0); (focus rfl); (focus (decide +kernel)); (focus rfl); (focus exact cal_Count); (focus exact hC); (focus rfl))
  ))
 exact fun h => h) : q := h hp
theorem armXK8_2 {p q : Prop} (hp : p) (h : p → q := by
 apply cmp; (focus (first
  | ((with_reducible apply call0); (focus rfl); (focus exact cal_KProps); (focus exact hP); (focus rfl))
  | ((with_reducible apply je_call0); (focus rfl); (focus (decide +kernel)); (focus rfl); (focus exact cal_KProps); (focus exact hP); (focus rfl))
  | ((with_reducible apply call0); (focus rfl); (focus exact cal_Letter); (focus exact hL); (focus rfl))
  | ((with_reducible apply je_call0); (focus rfl); (focus (decide +kernel)); (focus rfl); (focus exact cal_Letter); (focus exact hL); (focus rfl))
  | ((with_reducible apply qcall); (focus rfl); (focus exact cal_KProps); (focus exact hP); (focus rfl))
  ))
 exact fun h => h) : q := h hp
theorem kletters (d : De) : ACr Tryz.prog GP 69 [mdA (modG d)] (.tup [.d (lettD (letsG d (manyG d))), .bool true]) := by
 have hC := Count (modG d)
 have hP := KProps GP
 rw [countF_G] at hC
 have hN := manyG_eq d
 have hll := letsG_len d
 refine AC_ofV (ts := [2, 3]) Tryz.f69.ntmps Tryz.func69 rfl rfl rfl (by simp [Tryz.ntmps69]) fun W I => ?_
 repeat' (first
  | refine armXK8_1 ?_
  | exact True.intro | refine stpH ?_ | refine two ?_ ?_ | refine allc fun c_ => ?_
  | (refine imp fun hc => ?_) <;> try exact cx1 hc
  | refine all fun v_ => ?_)
 obtain ⟨bm, rfl⟩ : ∃ x, x = v_ := ⟨v_, rfl⟩
 refine jrow (E := 72) (sz := 1) lettC ?_
 refine J_loopV (X := Nat × Sl) (fun y => [(1, .val (.pointer (some ⟨bm, 0, none⟩))), (4, .int (manyG d)), (5, .int 0), (6, .val y.2.v), (7, .int y.1)]) (fun y => [rowE y.2.v 72 1 lettC (letsG d y.1), .cells bm 25 [.d (varsD (modG d).vars), .d (rulesD (modG d).rules)]]) (fun y => y.1 ≤ manyG d) (fun y => manyG d - y.1) (0, Sl.nil) (Nat.zero_le _) (VS.take (by exact takedD) ?_) ?_
 · exact leD
 rintro ⟨i, q⟩ hi
 dsimp only at hi ⊢
 have hli := hll i
 by_cases hil : i < manyG d
 · have hs := letsG_succ d i
   have hL := Letter (modG d) propsG i
   rw [letF_G d (c := (i : Int)) (by omega) (by omega)] at hL
   have h3 := lettF_3 d i
   dsimp only at hL
   generalize lettF (tskG d []) (i : Int) = x at hL h3 hs
   repeat' (first
    | refine armXK8_2 ?_
    | ((with_reducible apply (japU1 (f := lettC) (u := x))); (focus rfl); (focus rfl); (focus (with_reducible exact ElC.h)); (focus exact updqD); (focus rfl); (focus rfl); (focus rfl); (focus rfl); (focus exact bndD); (focus exact bndD))
    | exact True.intro | refine stpH ?_ | refine two ?_ ?_ | refine allc fun c_ => ?_
    | (refine imp fun hc => ?_) <;> try exact cx1 hc
    | refine all fun v_ => ?_)
   all_goals
    refine ⟨(i + 1, v_), by dsimp only; omega, by dsimp only; omega, VS.take (by dsimp only; rw [hs]; exact takedD) ?_⟩
    exact leD
 obtain rfl : i = manyG d := by omega
 repeat' (first
  | exact True.intro | refine stpH ?_ | refine two ?_ ?_ | refine allc fun c_ => ?_
  | (refine imp fun hc => ?_) <;> try exact cx1 hc
  | refine all fun v_ => ?_)
 refine retv (VS.trans (VS.take (hc := [rowE q.v 72 1 lettC (letsG d (manyG d))]) (by exact takedD) (Env.le_refl _)) (vfreeze (t := 2) (eb := 24) rfl rfl (fun x => rfl) (by omega))) ?_
 ((with_reducible apply rq2); rfl; rfl; rfl)
 exact ret_eq (by rw [decide_eq_true (show (0 : Int) < manyG d by omega)])
theorem armXK8_3 {p q : Prop} (hp : p) (h : p → q := by
 apply cmp; (focus (first
  | ((with_reducible apply call0); (focus rfl); (focus exact cal_Next); (focus exact hL); (focus rfl))
  | ((with_reducible apply je_call0); (focus rfl); (focus (decide +kernel)); (focus rfl); (focus exact cal_Next); (focus exact hL); (focus rfl))
  ))
 exact fun h => h) : q := h hp
theorem knexts (d : De) : ACr Tryz.prog GP 70 [mdA (modG d)] (.tup [.d (listsD (nxtG d (manyG d))), .bool true]) := by
 have hC := Count (modG d)
 rw [countF_G] at hC
 have hN := manyG_eq d
 have hll := nxtG_len d
 refine AC_ofV (ts := [2, 3]) Tryz.f70.ntmps Tryz.func70 rfl rfl rfl (by simp [Tryz.ntmps70]) fun W I => ?_
 repeat' (first
  | refine armXK8_1 ?_
  | exact True.intro | refine stpH ?_ | refine two ?_ ?_ | refine allc fun c_ => ?_
  | (refine imp fun hc => ?_) <;> try exact cx1 hc
  | refine all fun v_ => ?_)
 obtain ⟨bm, rfl⟩ : ∃ x, x = v_ := ⟨v_, rfl⟩
 refine jrow (E := 33) (sz := 1) listC ?_
 refine J_loopV (X := Nat × Sl) (fun y => [(1, .val (.pointer (some ⟨bm, 0, none⟩))), (4, .int (manyG d)), (5, .int 0), (6, .val y.2.v), (7, .int y.1)]) (fun y => [rowE y.2.v 33 1 listC (nxtG d y.1), .cells bm 25 [.d (varsD (modG d).vars), .d (rulesD (modG d).rules)]]) (fun y => y.1 ≤ manyG d) (fun y => manyG d - y.1) (0, Sl.nil) (Nat.zero_le _) (VS.take (by exact takedD) ?_) ?_
 · exact leD
 rintro ⟨i, q⟩ hi
 dsimp only at hi ⊢
 have hli := hll i
 by_cases hil : i < manyG d
 · have hs := nxtG_succ d i
   have hL := Next (modG d) i
   obtain ⟨e1, e2, e3, _⟩ := nextF_G d (c := (i : Int)) (by omega) (by omega)
   rw [e1] at hL
   dsimp only at hL
   clear e1
   generalize (nextF (modG d) (i : Int)).1 = x at hL e2 e3 hs
   repeat' (first
    | refine armXK8_3 ?_
    | ((with_reducible apply (japU1 (f := listC) (u := x))); (focus rfl); (focus rfl); (focus (with_reducible exact ElC.h)); (focus exact updqD); (focus rfl); (focus rfl); (focus rfl); (focus rfl); (focus exact bndD); (focus exact bndD))
    | exact True.intro | refine stpH ?_ | refine two ?_ ?_ | refine allc fun c_ => ?_
    | (refine imp fun hc => ?_) <;> try exact cx1 hc
    | refine all fun v_ => ?_)
   all_goals
    refine ⟨(i + 1, v_), by dsimp only; omega, by dsimp only; omega, VS.take (by dsimp only; rw [hs]; exact takedD) ?_⟩
    exact leD
 obtain rfl : i = manyG d := by omega
 repeat' (first
  | exact True.intro | refine stpH ?_ | refine two ?_ ?_ | refine allc fun c_ => ?_
  | (refine imp fun hc => ?_) <;> try exact cx1 hc
  | refine all fun v_ => ?_)
 refine retv (VS.trans (VS.take (hc := [rowE q.v 33 1 listC (nxtG d (manyG d))]) (by exact takedD) (Env.le_refl _)) (vfreeze (t := 2) (eb := 24) rfl rfl (fun x => rfl) (by omega))) ?_
 ((with_reducible apply rq2); rfl; rfl; rfl)
 exact ret_eq (by rw [decide_eq_true (show (0 : Int) < manyG d by omega)])
theorem armXK8_4 {p q : Prop} (hp : p) (h : p → q := by
 apply cmp; (focus (first
  | ((with_reducible apply call0); (focus rfl); (focus exact cal_KModel); (focus exact hM); (focus rfl))
  | ((with_reducible apply je_call0); (focus rfl); (focus (decide +kernel)); (focus rfl); (focus exact cal_KModel); (focus exact hM); (focus rfl))
  | ((with_reducible apply call0); (focus rfl); (focus exact cal_kletters); (focus exact hL); (focus rfl))
  | ((with_reducible apply je_call0); (focus rfl); (focus (decide +kernel)); (focus rfl); (focus exact cal_kletters); (focus exact hL); (focus rfl))
  | ((with_reducible apply call0); (focus rfl); (focus exact cal_knexts); (focus exact hN); (focus rfl))
  | ((with_reducible apply je_call0); (focus rfl); (focus (decide +kernel)); (focus rfl); (focus exact cal_knexts); (focus exact hN); (focus rfl))
  | ((with_reducible apply call0); (focus rfl); (focus exact cal_First); (focus exact hF); (focus rfl))
  | ((with_reducible apply je_call0); (focus rfl); (focus (decide +kernel)); (focus rfl); (focus exact cal_First); (focus exact hF); (focus rfl))
  ))
 exact fun h => h) : q := h hp
theorem kworld (d : De) (hd : DeOk d) : ACr Tryz.prog GP 26 [deA d] (.tup [.d (lettD (letsG d (manyG d))), .d (listsD (nxtG d (manyG d))), .int (firstF (modG d)), .bool true]) := by
 have hM := KModel GP d hd
 have hL := kletters d
 have hN := knexts d
 have hF : ACr Tryz.prog GP 36 [mdA (modG d)] (.tup [.int (firstF (modG d)), .int (codeF (modG d) (inits (modG d))).2]) := First (modG d)
 obtain ⟨f1, f2, f3⟩ := first_ok (modelF_G d)
 rw [f1] at hF
 rw [(manyG_eq d).1] at f3
 have h1 := letsG_len d (manyG d)
 have h2 := nxtG_len d (manyG d)
 have hb := manyG_eq d
 generalize letsG d (manyG d) = l at hL h1 ⊢
 generalize nxtG d (manyG d) = n at hN h2 ⊢
 generalize firstF (modG d) = f at hF f2 f3 ⊢
 refine AC_ofV (ts := [2, 3, 4, 5]) Tryz.f26.ntmps Tryz.func26 rfl rfl rfl (by simp [Tryz.ntmps26]) fun W I => ?_
 repeat' (first
  | refine armXK8_4 ?_
  | exact True.intro | refine stpH ?_ | refine two ?_ ?_ | refine allc fun c_ => ?_
  | (refine imp fun hc => ?_) <;> try exact cx1 hc
  | refine all fun v_ => ?_)
 all_goals
  refine retv (VS.drop (List.nil_sublist _)) ?_
  ((with_reducible apply rq4); rfl; rfl; rfl; rfl; rfl)
  exact ret_eq (by simp_all)
theorem conf_Raw {g : Nat} {xs : List D} (h : Conf Tryz.prog (g + 2) 167 xs) : ∃ o : {o : Fo // inI64 o.kind ∧ inI64 o.val}, xs = o.1.cells := by
 obtain ⟨p0, p1, rfl, h0, h1⟩ := conf_struct2_of Tryz.underlying167 h
 obtain ⟨a, rfl, ha⟩ := conf_int64 h0
 obtain ⟨b, rfl, hb⟩ := conf_int64 h1
 exact ⟨⟨⟨a, b⟩, ha, hb⟩, rfl⟩
theorem conf_raws {g : Nat} {xs : List D} (h : Conf Tryz.prog (g + 3) 56 xs) : ∃ l : List Fo, xs = [opsD l] ∧ rawOk l := by
 obtain ⟨l, rfl, _⟩ := conf_slice_of (sz := 2) (eb := 16) Tryz.underlying56 (by kernel_rfl) (by kernel_rfl) (f := fun o : {o : Fo // inI64 o.kind ∧ inI64 o.val} => o.1.cells) (fun _ h => conf_Raw h) h
 refine ⟨l.map Subtype.val, by show _ = [D.l 2 16 ((l.map Subtype.val).map Fo.cells)]; rw [List.map_map]; rfl, fun o ho => ?_⟩
 obtain ⟨x, _, rfl⟩ := List.mem_map.1 ho
 exact x.2
theorem conf_Plan {g : Nat} {xs : List D} (h : Conf Tryz.prog (g + 4) 133 xs) : ∃ p : {p : Pl // rawOk p.guard ∧ inI64 p.var ∧ rawOk p.value}, xs = p.1.cells := by
 obtain ⟨p0, p1, p2, p3, rfl, h0, h1, h2, h3⟩ := conf_struct4_of Tryz.underlying133 h
 obtain ⟨a, rfl, ha⟩ := conf_raws h0
 obtain ⟨b, rfl, hb⟩ := conf_int64 h1
 obtain ⟨c, rfl, hc⟩ := conf_raws h2
 obtain ⟨e, rfl⟩ := conf_bool h3
 exact ⟨⟨⟨a, b, c, e⟩, ha, hb, hc⟩, rfl⟩
theorem conf_plans {g : Nat} {xs : List D} (h : Conf Tryz.prog (g + 5) 53 xs) : ∃ l : List Pl, xs = [plansD l] ∧ ∀ p ∈ l, rawOk p.guard ∧ inI64 p.var ∧ rawOk p.value := by
 obtain ⟨l, rfl, _⟩ := conf_slice_of (sz := 4) (eb := 64) Tryz.underlying53 (by kernel_rfl) (by kernel_rfl) (f := fun p : {p : Pl // rawOk p.guard ∧ inI64 p.var ∧ rawOk p.value} => p.1.cells) (fun _ h => conf_Plan h) h
 refine ⟨l.map Subtype.val, by show _ = [D.l 4 64 ((l.map Subtype.val).map Pl.cells)]; rw [List.map_map]; rfl, fun o ho => ?_⟩
 obtain ⟨x, _, rfl⟩ := List.mem_map.1 ho
 exact x.2
theorem conf_two {g : Nat} {xs : List D} (h : Conf Tryz.prog (g + 2) 52 xs) : ∃ a b : Int, xs = [.i .i64 a, .i .i64 b] ∧ inI64 a ∧ inI64 b := by
 obtain ⟨p0, p1, rfl, h0, h1⟩ := conf_array2_of Tryz.underlying52 h
 obtain ⟨a, rfl, ha⟩ := conf_int64 h0
 obtain ⟨b, rfl, hb⟩ := conf_int64 h1
 exact ⟨a, b, rfl, ha, hb⟩
theorem conf_Design {g : Nat} {xs : List D} (h : Conf Tryz.prog (g + 6) 55 xs) : ∃ d : De, xs = d.cells ∧ DeOk d := by
 obtain ⟨p0, p1, p2, p3, rfl, h0, h1, h2, h3⟩ := conf_struct4_of Tryz.underlying55 h
 obtain ⟨a, b, rfl, ha, hb⟩ := conf_two h0
 obtain ⟨c, e, rfl, hc, he⟩ := conf_two h1
 obtain ⟨i, j, rfl, hi, hj⟩ := conf_two h2
 obtain ⟨l, rfl, hl⟩ := conf_plans h3
 exact ⟨⟨a, b, c, e, i, j, l⟩, rfl, ha, hb, hc, he, hi, hj, hl⟩
open Go Go.Av Go.Sp Go.ChangeShapes Go.WideShapes Go.ChangeAt Go.RowKit

abbrev laidRow := Rows.topNotRow
theorem own : ownKnob Tryz.prog.godebug = none := by kernel_rfl
theorem laidOutAll : laidOutB Tryz.prog = true := by kernel_rfl
theorem gTab : Tryz.prog.globalNamed "foretell/polish.parts" = some 0 := by kernel_rfl
theorem gTabType : (Tryz.prog.globals[0]?).map (·.type) = some 249 := by kernel_rfl
theorem cellsTab : Tryz.prog.cellsOf 249 = 19 := by kernel_rfl
theorem cellsInt : Tryz.prog.cellsOf 3 = 1 := by kernel_rfl
def partsZ : List Int := [-1, 0, 0, 2, 2, 2, 2, 2, 2, 2, 1, 0, 0, 0, 1, 2, 2, 1, 1]
theorem table {W : World} (h : laidMetH Tryz.prog laidRow.laid W) : Lib.TabIs Tryz.prog W "foretell/polish.parts" .i64 partsZ :=
 Lib.tabIs_of_head (rest := []) gTab gTabType Tryz.underlying249 Tryz.underlying3 cellsInt cellsTab h

theorem globPD {W : World} (h : laidMetH Tryz.prog laidRow.laid W) : ∀ q ∈ GP, PD W (fun b => b < W.heap.size) q.2 ⟨q.1, 0, none⟩ := by
 intro q hq
 obtain rfl : q = (0, partsT) := by simpa [GP] using hq
 have hc : ∀ (i : Nat) (hi : i < partsZ.length), W.cell? ⟨0, i, none⟩ = some (.int .i64 partsZ[i]) := fun i hi => by simpa [List.getElem?_eq_getElem hi] using (table h).cell gTab i hi
 refine ⟨World.block_lt_of_cell? _ _ (hc 0 (by decide)), fun u x hx => ?_⟩
 have hu : u < partsZ.length := by
  have := (List.getElem?_eq_some_iff.1 hx).1
  simpa [partsT, partsZ] using this
 have e : partsT[u]? = some (.i .i64 partsZ[u]) := by
  have : partsT = partsZ.map fun n => D.i .i64 n := rfl
  rw [this, List.getElem?_map, List.getElem?_eq_getElem hu]; rfl
 rw [e] at hx
 cases hx
 exact ⟨_, by rw [Addr.add_lit, Nat.zero_add]; exact hc u hu, .i _ _⟩

noncomputable def laidWorld (os : Os) : World :=
 { World.holding Tryz.prog os ⟨#[], #[], []⟩ with heap := (World.holding Tryz.prog os ⟨#[], #[], []⟩).heap.modify 0 fun
    | .cells _ t frozen => .cells (partsZ.map fun n => Value.int .i64 n).toArray t frozen
    | o => o }

theorem cal_GrowB : Cal Tryz.prog 202 := Cal.of Tryz.func202 (by kernel_rfl) (by kernel_rfl)
theorem cal_ConcatB : Cal Tryz.prog 173 := Cal.of Tryz.func173 (by kernel_rfl) (by kernel_rfl)
theorem cal_WCheck : Cal Tryz.prog 172 := Cal.of Tryz.func172 (by kernel_rfl) (by kernel_rfl)
theorem GrowB (G : List (Nat × List D)) (n : Nat) (hn : n ≤ 1000000) : AC Tryz.prog G 202 [.val (.slice none 0 0), .int n] [] fun r h => ∃ q : Sl, r = .ret (.val q.v) ∧ h = [rowE q.v 72 1 lettC []] := by
 refine AC_ofV (ts := [4]) Tryz.f202.ntmps Tryz.func202 rfl rfl rfl (by simp [Tryz.ntmps202]) fun W I => ?_
 by_cases h0 : 0 < n
 · repeat' (first
    | ((with_reducible apply jp); (focus ((with_reducible apply pu_cap); rfl; rfl)); (focus rfl))
    | ((with_reducible apply jp); (focus ((with_reducible apply pu_slice_nil); rfl; rfl; rfl; (focus (with_reducible exact ElC.h)))); (focus rfl))
    | ((with_reducible apply (japp_zeros (n := n) lettC [] (boolsD []))); (focus rfl); (focus rfl); (focus omega); (focus rfl); (focus rfl); (focus (with_reducible exact ElC.h)); (focus rfl); (focus rfl); (focus exact fun w I => .nil _ _); (focus omega); (focus omega); (focus omega); (focus rfl))
    | exact True.intro | refine stpH ?_ | refine two ?_ ?_ | refine allc fun c_ => ?_
    | (refine imp fun hc => ?_) <;> try exact cx1 hc
    | refine all fun v_ => ?_)
   refine retv0 ?_
   ((with_reducible apply rq1); rfl; rfl)
   exact ⟨v_, rfl, rfl⟩
 · obtain rfl : n = 0 := by omega
   repeat' (first
    | ((with_reducible apply jp); (focus ((with_reducible apply pu_cap); rfl; rfl)); (focus rfl))
    | ((with_reducible apply jp); (focus ((with_reducible apply pu_slice_nil); rfl; rfl; rfl; (focus (with_reducible exact ElC.h)))); (focus rfl))
    | ((with_reducible apply (japp_zeros (n := n) lettC [] (boolsD []))); (focus rfl); (focus rfl); (focus omega); (focus rfl); (focus rfl); (focus (with_reducible exact ElC.h)); (focus rfl); (focus rfl); (focus exact fun w I => .nil _ _); (focus omega); (focus omega); (focus omega); (focus rfl))
    | exact True.intro | refine stpH ?_ | refine two ?_ ?_ | refine allc fun c_ => ?_
    | (refine imp fun hc => ?_) <;> try exact cx1 hc
    | refine all fun v_ => ?_)
   refine retv (VS.nilrow 72 1) ?_
   ((with_reducible apply rq1); rfl; rfl)
   exact ⟨Sl.nil, rfl, rfl⟩
def lettLC (l : List (List Bool)) : List D := [lettD l]
def sumL {α : Type} (ls : List (List α)) (i : Nat) : Nat := ((ls.take i).map List.length).sum
theorem sumL_succ {α : Type} (ls : List (List α)) (i : Nat) (h : i < ls.length) : sumL ls (i + 1) = sumL ls i + ls[i].length := by
 unfold sumL
 rw [List.take_succ_eq_append_getElem h, List.map_append, List.sum_append]
 simp
theorem sumL_le {α : Type} (ls : List (List α)) : ∀ i, i ≤ ls.length → sumL ls i ≤ (ls.map List.length).sum := fun i hi => by
 have key : ∀ d, i + d ≤ ls.length → sumL ls i ≤ sumL ls (i + d) := by
  intro d
  induction d with
  | zero => intro _; exact Nat.le_refl _
  | succ d ih =>
    intro hd
    have := ih (by omega)
    rw [← Nat.add_assoc, sumL_succ ls (i + d) (by omega)]
    omega
 have := key (ls.length - i) (by omega)
 rwa [Nat.add_sub_cancel' hi, sumL, sumL, List.take_length] at this
theorem sumL_flat {α : Type} (ls : List (List α)) (i : Nat) : ((ls.take i).flatten).length = sumL ls i := by simp [sumL, List.length_flatten]
theorem ConcatB (G : List (Nat × List D)) (ls : List (List (List Bool))) (hs : (ls.map List.length).sum ≤ 1000000) : ACr Tryz.prog G 173 [.d (.l 1 24 (ls.map lettLC))] (.d (lettD ls.flatten)) := by
 refine AC_ofV (ts := [2]) Tryz.f173.ntmps Tryz.func173 rfl rfl rfl (by simp [Tryz.ntmps173]) fun W I => ?_
 refine jfact (t := 0) rfl fun hl => ?_
 repeat' (first
  | exact True.intro | refine stpH ?_ | refine two ?_ ?_ | refine allc fun c_ => ?_
  | (refine imp fun hc => ?_) <;> try exact cx1 hc
  | refine all fun v_ => ?_)
 refine J_loopV (X := Nat) (fun i => [(0, .d (.l 1 24 (ls.map lettLC))), (3, .int (sumL ls i)), (9, .d (.l 1 24 (ls.map lettLC))), (10, .int ls.length), (11, .int i)]) (fun _ => []) (fun i => i ≤ ls.length) (fun i => ls.length - i) 0 (Nat.zero_le _) (VS.of_le ?_) ?_
 · exact leD
 rintro i h1
 by_cases hi : i < ls.length
 · have e1 := sumL_succ ls i hi
   have e2 := sumL_le ls (i + 1) hi
   repeat' (first
    | exact True.intro | refine stpH ?_ | refine two ?_ ?_ | refine allc fun c_ => ?_
    | (refine imp fun hc => ?_) <;> try exact cx1 hc
    | refine all fun v_ => ?_)
   refine ⟨i + 1, by omega, by omega, VS.of_le ?_⟩
   exact leD
 obtain rfl : i = ls.length := by omega
 have e2 := sumL_le ls ls.length (Nat.le_refl _)
 repeat' (first
  | ((with_reducible apply callG); (focus rfl); (focus exact cal_GrowB); (focus exact GrowB G (sumL ls ls.length) (by omega)); (focus exact takeD); (focus rfl); (focus exact appD))
  | exact True.intro | refine stpH ?_ | refine two ?_ ?_ | refine allc fun c_ => ?_
  | (refine imp fun hc => ?_) <;> try exact cx1 hc
  | refine all fun v_ => ?_)
 refine J_loopV (X := Nat × Sl) (fun y => [(6, .val y.2.v), (25, .d (.l 1 24 (ls.map lettLC))), (26, .int ls.length), (27, .int y.1)]) (fun y => [rowE y.2.v 72 1 lettC (ls.take y.1).flatten]) (fun y => y.1 ≤ ls.length) (fun y => ls.length - y.1) (0, v_) (Nat.zero_le _) (VS.of_le ?_) ?_
 · exact leD
 rintro ⟨i, q⟩ h1
 dsimp only at h1 ⊢
 by_cases hi : i < ls.length
 · have e1 := sumL_succ ls i hi
   have e3 := sumL_le ls (i + 1) hi
   have e4 := sumL_flat ls i
   have e5 : (ls.take i).flatten ++ ls[i] = (ls.take (i + 1)).flatten := by rw [List.take_succ_eq_append_getElem hi, List.flatten_append]; simp
   repeat' (first
    | exact True.intro | refine stpH ?_ | refine two ?_ ?_ | refine allc fun c_ => ?_
    | (refine imp fun hc => ?_) <;> try exact cx1 hc
    | refine all fun v_ => ?_)
   refine ⟨(i + 1, v_), by dsimp only; omega, by dsimp only; omega, ?_⟩
   dsimp only
   rw [e5]
   refine VS.of_le ?_
   exact leD
 obtain rfl : i = ls.length := by omega
 have e4 := sumL_flat ls ls.length
 repeat' (first
  | exact True.intro | refine stpH ?_ | refine two ?_ ?_ | refine allc fun c_ => ?_
  | (refine imp fun hc => ?_) <;> try exact cx1 hc
  | refine all fun v_ => ?_)
 refine retv (vfreeze (t := 2) (eb := 24) rfl rfl (fun x => rfl) (by omega)) ?_
 ((with_reducible apply rq1); rfl; rfl)
 refine ret_eq ?_
 rw [List.take_length]
noncomputable def wordF (w : Wd) (p : Int) : Int := if ¬ (0 ≤ p ∧ p ≤ 6) then 2 else if ¬ (w.stem.length ≤ 12 ∧ 1 ≤ w.loop.length ∧ w.loop.length ≤ 12) then 1 else if ∀ l ∈ w.stem ++ w.loop, (l.length : Int) = p then 0 else 3
theorem wordF_2 {w : Wd} {p : Int} (h : ¬ (0 ≤ p ∧ p ≤ 6)) : wordF w p = 2 := if_pos h
theorem wordF_1 {w : Wd} {p : Int} (h : 0 ≤ p ∧ p ≤ 6) (h2 : ¬ (w.stem.length ≤ 12 ∧ 1 ≤ w.loop.length ∧ w.loop.length ≤ 12)) : wordF w p = 1 := by rw [wordF, if_neg (fun k => k h), if_pos h2]
theorem wordF_0 {w : Wd} {p : Int} (h : 0 ≤ p ∧ p ≤ 6) (h2 : w.stem.length ≤ 12 ∧ 1 ≤ w.loop.length ∧ w.loop.length ≤ 12) (h3 : ∀ i (hi : i < (w.stem ++ w.loop).length), ((w.stem ++ w.loop)[i].length : Int) = p) : wordF w p = 0 := by
 rw [wordF, if_neg (fun k => k h), if_neg (fun k => k h2), if_pos]
 intro l hl
 obtain ⟨i, hi, rfl⟩ := List.getElem_of_mem hl
 exact h3 i hi
theorem wordF_3 {w : Wd} {p : Int} (h : 0 ≤ p ∧ p ≤ 6) (h2 : w.stem.length ≤ 12 ∧ 1 ≤ w.loop.length ∧ w.loop.length ≤ 12) {i : Nat} (hi : i < (w.stem ++ w.loop).length) (h3 : ¬ ((w.stem ++ w.loop)[i].length : Int) = p) : wordF w p = 3 := by
 rw [wordF, if_neg (fun k => k h), if_neg (fun k => k h2), if_neg]
 exact fun k => h3 (k _ (List.getElem_mem hi))
theorem armXW4_1 {p q : Prop} (hp : p) (h : p → q := by
 apply cmp; (focus (first
  | ((with_reducible apply call0); (focus rfl); (focus exact cal_ConcatB); (focus exact E); (focus rfl))
  | ((with_reducible apply je_call0); (focus rfl); (focus (decide +kernel)); (focus rfl); (focus exact cal_ConcatB); (focus exact E); (focus rfl))
  ))
 exact fun h => h) : q := h hp
theorem WCheck (G : List (Nat × List D)) (w : Wd) (p : Int) : ACr Tryz.prog G 172 [wdA w, .int p] (.int (wordF w p)) := by
 refine AC_ofV (ts := [4]) Tryz.f172.ntmps Tryz.func172 rfl rfl rfl (by simp [Tryz.ntmps172]) fun W I => ?_
 by_cases c1 : ¬ 0 ≤ p
 · repeat' (first
    | exact True.intro | refine stpH ?_ | refine two ?_ ?_ | refine allc fun c_ => ?_
    | (refine imp fun hc => ?_) <;> try exact cx1 hc
    | refine all fun v_ => ?_)
   refine retv (VS.drop (List.nil_sublist _)) ?_
   ((with_reducible apply rq1); rfl; rfl)
   exact ret_eq (by rw [wordF_2 (by omega)])
 by_cases c2 : ¬ p ≤ 6
 · repeat' (first
    | exact True.intro | refine stpH ?_ | refine two ?_ ?_ | refine allc fun c_ => ?_
    | (refine imp fun hc => ?_) <;> try exact cx1 hc
    | refine all fun v_ => ?_)
   refine retv (VS.drop (List.nil_sublist _)) ?_
   ((with_reducible apply rq1); rfl; rfl)
   exact ret_eq (by rw [wordF_2 (by omega)])
 by_cases c3 : ¬ w.stem.length ≤ 12
 · repeat' (first
    | exact True.intro | refine stpH ?_ | refine two ?_ ?_ | refine allc fun c_ => ?_
    | (refine imp fun hc => ?_) <;> try exact cx1 hc
    | refine all fun v_ => ?_)
   refine retv (VS.drop (List.nil_sublist _)) ?_
   ((with_reducible apply rq1); rfl; rfl)
   exact ret_eq (by rw [wordF_1 (by omega) (by omega)])
 by_cases c4 : ¬ 1 ≤ w.loop.length
 · repeat' (first
    | exact True.intro | refine stpH ?_ | refine two ?_ ?_ | refine allc fun c_ => ?_
    | (refine imp fun hc => ?_) <;> try exact cx1 hc
    | refine all fun v_ => ?_)
   refine retv (VS.drop (List.nil_sublist _)) ?_
   ((with_reducible apply rq1); rfl; rfl)
   exact ret_eq (by rw [wordF_1 (by omega) (by omega)])
 by_cases c5 : ¬ w.loop.length ≤ 12
 · repeat' (first
    | exact True.intro | refine stpH ?_ | refine two ?_ ?_ | refine allc fun c_ => ?_
    | (refine imp fun hc => ?_) <;> try exact cx1 hc
    | refine all fun v_ => ?_)
   refine retv (VS.drop (List.nil_sublist _)) ?_
   ((with_reducible apply rq1); rfl; rfl)
   exact ret_eq (by rw [wordF_1 (by omega) (by omega)])
 have k1 : 0 ≤ p ∧ p ≤ 6 := by omega
 have k2 : w.stem.length ≤ 12 ∧ 1 ≤ w.loop.length ∧ w.loop.length ≤ 12 := by omega
 have E := ConcatB G [w.stem, w.loop] (by simp; omega)
 rw [show [w.stem, w.loop].flatten = w.stem ++ w.loop by simp] at E
 have hln : (w.stem ++ w.loop).length ≤ 24 := by simp; omega
 have f0 := wordF_0 (w := w) (p := p) k1 k2
 have f3 := fun i hi h => wordF_3 (w := w) (p := p) k1 k2 (i := i) hi h
 generalize w.stem ++ w.loop = al at E hln f0 f3
 repeat' (first
  | ((with_reducible apply jbuild_list2); (focus rfl); (focus rfl); (focus rfl); (focus (with_reducible exact ElC.h)); (focus rfl); (focus rfl))
  | refine armXW4_1 ?_
  | exact True.intro | refine stpH ?_ | refine two ?_ ?_ | refine allc fun c_ => ?_
  | (refine imp fun hc => ?_) <;> try exact cx1 hc
  | refine all fun v_ => ?_)
 refine J_loopV (X := Nat) (fun i => [(1, .int p), (34, .d (lettD al)), (35, .int al.length), (36, .int i)]) (fun _ => []) (fun i => i ≤ al.length ∧ ∀ j (h : j < al.length), j < i → (al[j].length : Int) = p) (fun i => al.length - i) 0 ⟨Nat.zero_le _, fun _ _ h => absurd h (Nat.not_lt_zero _)⟩ (VS.trans (VS.drop (List.nil_sublist _)) (VS.of_le ?_)) ?_
 · exact leD
 rintro i ⟨h1, h2⟩
 by_cases hi : ¬ i < al.length
 · repeat' (first
    | exact True.intro | refine stpH ?_ | refine two ?_ ?_ | refine allc fun c_ => ?_
    | (refine imp fun hc => ?_) <;> try exact cx1 hc
    | refine all fun v_ => ?_)
   refine retv (VS.drop (List.nil_sublist _)) ?_
   ((with_reducible apply rq1); rfl; rfl)
   exact ret_eq (by rw [f0 fun j hj => h2 j hj (by omega)])
 replace hi := Decidable.not_not.1 hi
 by_cases he : (al[i].length : Int) = p
 · repeat' (first
    | exact True.intro | refine stpH ?_ | refine two ?_ ?_ | refine allc fun c_ => ?_
    | (refine imp fun hc => ?_) <;> try exact cx1 hc
    | refine all fun v_ => ?_)
   refine ⟨i + 1, ⟨by omega, fun j hj hji => ?_⟩, by omega, VS.of_le ?_⟩
   · by_cases e : j = i
     · subst e; exact he
     · exact h2 j hj (by omega)
   · exact leD
 · repeat' (first
    | exact True.intro | refine stpH ?_ | refine two ?_ ?_ | refine allc fun c_ => ?_
    | (refine imp fun hc => ?_) <;> try exact cx1 hc
    | refine all fun v_ => ?_)
   refine retv (VS.drop (List.nil_sublist _)) ?_
   ((with_reducible apply rq1); rfl; rfl)
   exact ret_eq (by rw [f3 i hi he])
end Go.Proofs.YtniklgkoiaeipaaGreatDoor
