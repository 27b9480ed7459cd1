/- A bundle of this claim's own texts: T11 Q1 G14 N6. -/
import Derived.Sort.OwnSortedInts
import Derived.Lib.SlicesCompact
import Derived.Test.YtmamiihpghnmmaaDoorZ1
import Derived.Test.YtmamiihpghnmmaaDoorZ8
import Derived.Test.YtmamiihpghnmmaaDoorZ16
import Derived.Test.YtmamiihpghnmmaaDoorZ17
import Derived.Test.YtmamiihpghnmmaaDoorZ18
namespace Go.Proofs.YtmamiihpghnmmaaDoor
open Go Go.Av Go.Sp
set_option linter.unusedVariables false
set_option linter.unusedSimpArgs false
set_option maxRecDepth 100000
set_option maxHeartbeats 4000000

theorem bord_bools {h : H} {b n : Nat} {E : TypeId} {out : List Bool} (hm : Ent.cells b E (out.map AV.bool) ∈ h) (hn : out.length = n) (hb : n ≤ 1000000) : BorD h (.val (.slice (some ⟨b, 0, none⟩) n n)) (boolsD out) :=
  bord_row hm (by decide) (bools_flat out) (by simpa using hn) (fun r hr => by obtain ⟨a, _, rfl⟩ := List.mem_map.1 hr; rfl) (by omega) (by simp only [maxLen]; omega)
theorem bord_int' {h : H} {a : Int} {m : Nat} (e : a = m) : BorD h (.int a) (.i .i64 m) := e ▸ bord_int h _
set_option maxHeartbeats 2000000 in
theorem Truths (l : List Fo) (x : List Bool) (c : Int) : ACr Tryd.prog GP 50 [.d (opsD l), .d (boolsD x), .int c] (.tup [.d (boolsD (truthsOf l x c).1), .int (truthsOf l x c).2]) := by
  have hA := Ahead l x.length
  have hE := Ends l
  generalize hes0 : endsOf l = q at hE
  obtain ⟨es, e2⟩ := q
  dsimp only at hE
  generalize he : aheadsOf l x.length = p at hA
  obtain ⟨ps, e⟩ := p
  dsimp only at hA
  refine AC_ofV (ts := [6, 7]) 122 Tryd.func50 rfl rfl rfl (by simp) fun W I => ?_
  refine jfact (t := 0) rfl fun hl0 => ?_
  refine jfact (t := 1) rfl fun hl1 => ?_
  by_cases hc : e ≠ 0
  · repeat' (first
      | ((with_reducible apply call0); (focus rfl); (focus exact cal_Ahead); (focus exact hA); (focus rfl))
      | ((with_reducible apply je_call0); (focus rfl); (focus (decide +kernel)); (focus rfl); (focus exact cal_Ahead); (focus exact hA); (focus rfl))
      | ((with_reducible apply call0); (focus rfl); (focus exact cal_Ends); (focus exact hE); (focus rfl))
      | ((with_reducible apply je_call0); (focus rfl); (focus (decide +kernel)); (focus rfl); (focus exact cal_Ends); (focus exact hE); (focus rfl))
      | ((with_reducible apply jboxT); (focus rfl); (focus rfl); (focus rfl))
      | ((with_reducible apply jalloc1T); (focus (with_reducible exact ElC.h)); (focus rfl); (focus rfl))
      | ((with_reducible apply jallocN); (focus (with_reducible exact ElC.h)); (focus rfl))
      | ((with_reducible apply jmk_bool); (focus rfl); (focus rfl); (focus (with_reducible exact ElC.h)); (focus omega); (focus omega); (focus rfl))
      | ((with_reducible apply jmk_int); (focus rfl); (focus rfl); (focus (with_reducible exact ElC.h)); (focus omega); (focus omega); (focus rfl))
      | ((with_reducible apply js_um); (focus rfl); (focus ((repeat (first | with_reducible exact Upd.here | with_reducible apply Upd.there)); done)); (focus rfl); (focus rfl); (focus (with_reducible exact ElC.h)); (focus (first | omega | (simp only [List.length_map, List.length_range, List.length_append, List.length_cons, List.length_nil, List.length_take, List.length_drop, List.length_set, List.length_replicate]; omega))))
      | ((with_reducible apply js_uw); (focus rfl); (focus rfl); (focus rfl); (focus (with_reducible exact ElC.h)); (focus rfl); (focus ((repeat (first | with_reducible exact Upd.here | with_reducible apply Upd.there)); done)); (focus rfl))
      | ((with_reducible apply js_ur); (focus rfl); (focus rfl); (focus rfl); (focus (with_reducible exact ElC.h)); (focus ((repeat (first | with_reducible exact Upd.here | with_reducible apply Upd.there)); done)); (focus ((repeat (first | exact SetAR.nil | apply SetAR.put | apply SetAR.skip)); done)))
      | ((with_reducible apply js_us); (focus rfl); (focus rfl); (focus rfl); (focus (with_reducible exact ElC.h)); (focus rfl); (focus ((repeat (first | with_reducible exact Upd.here | with_reducible apply Upd.there)); done)); (focus ((repeat (first | exact SetAR.nil | apply SetAR.put | apply SetAR.skip)); done)))
      | ((with_reducible apply jqbor); (focus rfl); (focus rfl); (focus exact cal_Truths1); (focus exact hT1); (focus exact ⟨bor_ptr (List.mem_cons_of_mem _ List.mem_cons_self) ⟨bord_bools (List.mem_cons_of_mem _ (List.mem_cons_of_mem _ List.mem_cons_self)) d.len (by omega), trivial⟩, bor_ptr List.mem_cons_self ⟨bord_int' rfl, trivial⟩, trivial⟩); (focus rfl))
      | ((with_reducible apply jqbor); (focus rfl); (focus rfl); (focus exact cal_Truths2); (focus exact hT2); (focus exact ⟨bor_ptr (List.mem_cons_of_mem _ List.mem_cons_self) ⟨bord_bools (List.mem_cons_of_mem _ (List.mem_cons_of_mem _ List.mem_cons_self)) d.len (by omega), trivial⟩, bor_ptr (List.mem_cons_of_mem _ (List.mem_cons_of_mem _ (List.mem_cons_of_mem _ List.mem_cons_self))) ⟨bord_d _ _, trivial⟩, bor_ptr List.mem_cons_self ⟨bord_int' rfl, trivial⟩, trivial⟩); (focus rfl))
      | exact True.intro
      | refine stp ?_
      | refine two ?_ ?_
      | (refine imp fun hc => ?_) <;> try (first | contradiction | (exfalso; omega))
      | refine all fun v_ => ?_)
    refine retv (vnil (t := 6) 1 1 rfl) ?_
    ((with_reducible apply rq2); rfl; rfl; rfl)
    refine ret_eq ?_
    rw [truthsOf, he, if_pos hc]; rfl
  have e0 : e = 0 := by simpa using hc
  subst e0
  obtain ⟨hF, hps⟩ := aheadsOf_ok he
  have g := good_of hF
  have h60 := g.h60
  have hpl : ps.length ≤ 6 := by rw [hps, aheads_len]; exact g.ah
  have hp6 := pow6 hpl
  have hs : truthsOf l x c = if c < 0 ∨ 2 ^ ps.length ≤ c then ([], 2) else ((List.range l.length).map (tAt l x c), 0) := by
    rw [truthsOf, he]; rfl
  have hin : inI64 (1 * 2 ^ ((ps.length : Int)).toNat) := by
    rw [Int.toNat_natCast]; unfold inI64; omega
  have hin' : (1 : Int) * 2 ^ ((ps.length : Int)).toNat = 2 ^ ps.length := by
    rw [Int.toNat_natCast, Int.one_mul]
  by_cases hcr : c < 0 ∨ 2 ^ ps.length ≤ c
  · repeat' (first
      | ((with_reducible apply call0); (focus rfl); (focus exact cal_Ahead); (focus exact hA); (focus rfl))
      | ((with_reducible apply je_call0); (focus rfl); (focus (decide +kernel)); (focus rfl); (focus exact cal_Ahead); (focus exact hA); (focus rfl))
      | ((with_reducible apply call0); (focus rfl); (focus exact cal_Ends); (focus exact hE); (focus rfl))
      | ((with_reducible apply je_call0); (focus rfl); (focus (decide +kernel)); (focus rfl); (focus exact cal_Ends); (focus exact hE); (focus rfl))
      | ((with_reducible apply jboxT); (focus rfl); (focus rfl); (focus rfl))
      | ((with_reducible apply jalloc1T); (focus (with_reducible exact ElC.h)); (focus rfl); (focus rfl))
      | ((with_reducible apply jallocN); (focus (with_reducible exact ElC.h)); (focus rfl))
      | ((with_reducible apply jmk_bool); (focus rfl); (focus rfl); (focus (with_reducible exact ElC.h)); (focus omega); (focus omega); (focus rfl))
      | ((with_reducible apply jmk_int); (focus rfl); (focus rfl); (focus (with_reducible exact ElC.h)); (focus omega); (focus omega); (focus rfl))
      | ((with_reducible apply js_um); (focus rfl); (focus ((repeat (first | with_reducible exact Upd.here | with_reducible apply Upd.there)); done)); (focus rfl); (focus rfl); (focus (with_reducible exact ElC.h)); (focus (first | omega | (simp only [List.length_map, List.length_range, List.length_append, List.length_cons, List.length_nil, List.length_take, List.length_drop, List.length_set, List.length_replicate]; omega))))
      | ((with_reducible apply js_uw); (focus rfl); (focus rfl); (focus rfl); (focus (with_reducible exact ElC.h)); (focus rfl); (focus ((repeat (first | with_reducible exact Upd.here | with_reducible apply Upd.there)); done)); (focus rfl))
      | ((with_reducible apply js_ur); (focus rfl); (focus rfl); (focus rfl); (focus (with_reducible exact ElC.h)); (focus ((repeat (first | with_reducible exact Upd.here | with_reducible apply Upd.there)); done)); (focus ((repeat (first | exact SetAR.nil | apply SetAR.put | apply SetAR.skip)); done)))
      | ((with_reducible apply js_us); (focus rfl); (focus rfl); (focus rfl); (focus (with_reducible exact ElC.h)); (focus rfl); (focus ((repeat (first | with_reducible exact Upd.here | with_reducible apply Upd.there)); done)); (focus ((repeat (first | exact SetAR.nil | apply SetAR.put | apply SetAR.skip)); done)))
      | ((with_reducible apply jqbor); (focus rfl); (focus rfl); (focus exact cal_Truths1); (focus exact hT1); (focus exact ⟨bor_ptr (List.mem_cons_of_mem _ List.mem_cons_self) ⟨bord_bools (List.mem_cons_of_mem _ (List.mem_cons_of_mem _ List.mem_cons_self)) d.len (by omega), trivial⟩, bor_ptr List.mem_cons_self ⟨bord_int' rfl, trivial⟩, trivial⟩); (focus rfl))
      | ((with_reducible apply jqbor); (focus rfl); (focus rfl); (focus exact cal_Truths2); (focus exact hT2); (focus exact ⟨bor_ptr (List.mem_cons_of_mem _ List.mem_cons_self) ⟨bord_bools (List.mem_cons_of_mem _ (List.mem_cons_of_mem _ List.mem_cons_self)) d.len (by omega), trivial⟩, bor_ptr (List.mem_cons_of_mem _ (List.mem_cons_of_mem _ (List.mem_cons_of_mem _ List.mem_cons_self))) ⟨bord_d _ _, trivial⟩, bor_ptr List.mem_cons_self ⟨bord_int' rfl, trivial⟩, trivial⟩); (focus rfl))
      | exact True.intro
      | refine stp ?_
      | refine two ?_ ?_
      | (refine imp fun hc => ?_) <;> try (first | contradiction | (exfalso; omega))
      | refine all fun v_ => ?_)
    all_goals
      refine retv (vnil (t := 6) 1 1 rfl) ?_
      ((with_reducible apply rq2); rfl; rfl; rfl)
      refine ret_eq ?_
      rw [hs, if_pos hcr]; rfl
  have hc0 : 0 ≤ c := by omega
  have hT1 := True.intro
  have hT2 := True.intro
  repeat' (first
    | ((with_reducible apply call0); (focus rfl); (focus exact cal_Ahead); (focus exact hA); (focus rfl))
    | ((with_reducible apply je_call0); (focus rfl); (focus (decide +kernel)); (focus rfl); (focus exact cal_Ahead); (focus exact hA); (focus rfl))
    | ((with_reducible apply call0); (focus rfl); (focus exact cal_Ends); (focus exact hE); (focus rfl))
    | ((with_reducible apply je_call0); (focus rfl); (focus (decide +kernel)); (focus rfl); (focus exact cal_Ends); (focus exact hE); (focus rfl))
    | ((with_reducible apply jboxT); (focus rfl); (focus rfl); (focus rfl))
    | ((with_reducible apply jalloc1T); (focus (with_reducible exact ElC.h)); (focus rfl); (focus rfl))
    | ((with_reducible apply jallocN); (focus (with_reducible exact ElC.h)); (focus rfl))
    | ((with_reducible apply jmk_bool); (focus rfl); (focus rfl); (focus (with_reducible exact ElC.h)); (focus omega); (focus omega); (focus rfl))
    | ((with_reducible apply jmk_int); (focus rfl); (focus rfl); (focus (with_reducible exact ElC.h)); (focus omega); (focus omega); (focus rfl))
    | ((with_reducible apply js_um); (focus rfl); (focus ((repeat (first | with_reducible exact Upd.here | with_reducible apply Upd.there)); done)); (focus rfl); (focus rfl); (focus (with_reducible exact ElC.h)); (focus (first | omega | (simp only [List.length_map, List.length_range, List.length_append, List.length_cons, List.length_nil, List.length_take, List.length_drop, List.length_set, List.length_replicate]; omega))))
    | ((with_reducible apply js_uw); (focus rfl); (focus rfl); (focus rfl); (focus (with_reducible exact ElC.h)); (focus rfl); (focus ((repeat (first | with_reducible exact Upd.here | with_reducible apply Upd.there)); done)); (focus rfl))
    | ((with_reducible apply js_ur); (focus rfl); (focus rfl); (focus rfl); (focus (with_reducible exact ElC.h)); (focus ((repeat (first | with_reducible exact Upd.here | with_reducible apply Upd.there)); done)); (focus ((repeat (first | exact SetAR.nil | apply SetAR.put | apply SetAR.skip)); done)))
    | ((with_reducible apply js_us); (focus rfl); (focus rfl); (focus rfl); (focus (with_reducible exact ElC.h)); (focus rfl); (focus ((repeat (first | with_reducible exact Upd.here | with_reducible apply Upd.there)); done)); (focus ((repeat (first | exact SetAR.nil | apply SetAR.put | apply SetAR.skip)); done)))
    | ((with_reducible apply jqbor); (focus rfl); (focus rfl); (focus exact cal_Truths1); (focus exact hT1); (focus exact ⟨bor_ptr (List.mem_cons_of_mem _ List.mem_cons_self) ⟨bord_bools (List.mem_cons_of_mem _ (List.mem_cons_of_mem _ List.mem_cons_self)) d.len (by omega), trivial⟩, bor_ptr List.mem_cons_self ⟨bord_int' rfl, trivial⟩, trivial⟩); (focus rfl))
    | ((with_reducible apply jqbor); (focus rfl); (focus rfl); (focus exact cal_Truths2); (focus exact hT2); (focus exact ⟨bor_ptr (List.mem_cons_of_mem _ List.mem_cons_self) ⟨bord_bools (List.mem_cons_of_mem _ (List.mem_cons_of_mem _ List.mem_cons_self)) d.len (by omega), trivial⟩, bor_ptr (List.mem_cons_of_mem _ (List.mem_cons_of_mem _ (List.mem_cons_of_mem _ List.mem_cons_self))) ⟨bord_d _ _, trivial⟩, bor_ptr List.mem_cons_self ⟨bord_int' rfl, trivial⟩, trivial⟩); (focus rfl))
    | exact True.intro
    | refine stp ?_
    | refine two ?_ ?_
    | (refine imp fun hc => ?_) <;> try (first | contradiction | (exfalso; omega))
    | refine all fun v_ => ?_)
  rename_i b1 b' b2
  clear hT1 hT2
  have he2 : e2 = 0 := by have := g.ends; rw [hes0] at this; exact this
  subst he2
  obtain ⟨_, _, _, hlen, hes⟩ := endsOf_ok hes0
  refine J_loopV (X := Nat × List Bool × Nat) (fun y => [(0, .d (opsD l)), (1, .d (boolsD x)), (2, .int c), (10, .val (.pointer (some ⟨b1, 0, none⟩))), (12, .val (.pointer (some ⟨b2, 0, none⟩))), (13, .int (rank l y.1 : Nat)), (14, .val (.pointer (some ⟨y.2.2, 0, none⟩)))])
    (fun y => [.cells y.2.2 3 [.int ((y.1 : Int) - 1)], .cells b2 35 [.val (.slice (some ⟨b', 0, none⟩) l.length l.length)], .cells b' 4 (y.2.1.map AV.bool), .cells b1 50 [.d (intsD es)]])
    (fun y => y.1 ≤ l.length ∧ TDone l x c y.1 y.2.1) (fun y => y.1) (l.length, List.replicate l.length false, v_) ⟨Nat.le_refl _, TDone.start l x c⟩ ?_ ?_
  · refine VS.of_le ?_
    have := aheads_len (l := l)
    rw [← hps] at this
    repeat (first
      | exact Env.le_nil _
      | refine Env.le_cons (AV.le_refl _) ?_
      | refine Env.le_cons (AV.le_int rfl (by first | rfl | omega | (dsimp only; omega))) ?_)
  rintro ⟨i, out, b3⟩ ⟨k1, d⟩
  dsimp only at k1 d ⊢
  have ol := d.len
  cases i with
  | zero =>
    have hT1 := True.intro
    have hT2 := True.intro
    repeat' (first
      | ((with_reducible apply call0); (focus rfl); (focus exact cal_Ahead); (focus exact hA); (focus rfl))
      | ((with_reducible apply je_call0); (focus rfl); (focus (decide +kernel)); (focus rfl); (focus exact cal_Ahead); (focus exact hA); (focus rfl))
      | ((with_reducible apply call0); (focus rfl); (focus exact cal_Ends); (focus exact hE); (focus rfl))
      | ((with_reducible apply je_call0); (focus rfl); (focus (decide +kernel)); (focus rfl); (focus exact cal_Ends); (focus exact hE); (focus rfl))
      | ((with_reducible apply jboxT); (focus rfl); (focus rfl); (focus rfl))
      | ((with_reducible apply jalloc1T); (focus (with_reducible exact ElC.h)); (focus rfl); (focus rfl))
      | ((with_reducible apply jallocN); (focus (with_reducible exact ElC.h)); (focus rfl))
      | ((with_reducible apply jmk_bool); (focus rfl); (focus rfl); (focus (with_reducible exact ElC.h)); (focus omega); (focus omega); (focus rfl))
      | ((with_reducible apply jmk_int); (focus rfl); (focus rfl); (focus (with_reducible exact ElC.h)); (focus omega); (focus omega); (focus rfl))
      | ((with_reducible apply js_um); (focus rfl); (focus ((repeat (first | with_reducible exact Upd.here | with_reducible apply Upd.there)); done)); (focus rfl); (focus rfl); (focus (with_reducible exact ElC.h)); (focus (first | omega | (simp only [List.length_map, List.length_range, List.length_append, List.length_cons, List.length_nil, List.length_take, List.length_drop, List.length_set, List.length_replicate]; omega))))
      | ((with_reducible apply js_uw); (focus rfl); (focus rfl); (focus rfl); (focus (with_reducible exact ElC.h)); (focus rfl); (focus ((repeat (first | with_reducible exact Upd.here | with_reducible apply Upd.there)); done)); (focus rfl))
      | ((with_reducible apply js_ur); (focus rfl); (focus rfl); (focus rfl); (focus (with_reducible exact ElC.h)); (focus ((repeat (first | with_reducible exact Upd.here | with_reducible apply Upd.there)); done)); (focus ((repeat (first | exact SetAR.nil | apply SetAR.put | apply SetAR.skip)); done)))
      | ((with_reducible apply js_us); (focus rfl); (focus rfl); (focus rfl); (focus (with_reducible exact ElC.h)); (focus rfl); (focus ((repeat (first | with_reducible exact Upd.here | with_reducible apply Upd.there)); done)); (focus ((repeat (first | exact SetAR.nil | apply SetAR.put | apply SetAR.skip)); done)))
      | ((with_reducible apply jqbor); (focus rfl); (focus rfl); (focus exact cal_Truths1); (focus exact hT1); (focus exact ⟨bor_ptr (List.mem_cons_of_mem _ List.mem_cons_self) ⟨bord_bools (List.mem_cons_of_mem _ (List.mem_cons_of_mem _ List.mem_cons_self)) d.len (by omega), trivial⟩, bor_ptr List.mem_cons_self ⟨bord_int' rfl, trivial⟩, trivial⟩); (focus rfl))
      | ((with_reducible apply jqbor); (focus rfl); (focus rfl); (focus exact cal_Truths2); (focus exact hT2); (focus exact ⟨bor_ptr (List.mem_cons_of_mem _ List.mem_cons_self) ⟨bord_bools (List.mem_cons_of_mem _ (List.mem_cons_of_mem _ List.mem_cons_self)) d.len (by omega), trivial⟩, bor_ptr (List.mem_cons_of_mem _ (List.mem_cons_of_mem _ (List.mem_cons_of_mem _ List.mem_cons_self))) ⟨bord_d _ _, trivial⟩, bor_ptr List.mem_cons_self ⟨bord_int' rfl, trivial⟩, trivial⟩); (focus rfl))
      | exact True.intro
      | refine stp ?_
      | refine two ?_ ?_
      | (refine imp fun hc => ?_) <;> try (first | contradiction | (exfalso; omega))
      | refine all fun v_ => ?_)
    refine retv (vfz (t := 6) (f := boolC) (h1 := [_, _]) 1 1 rfl rfl rfl (bools_flat out) d.len (fun _ => rfl) (by omega) (by omega)) ?_
    ((with_reducible apply rq2); rfl; rfl; rfl)
    refine ret_eq ?_
    rw [hs, if_neg hcr, d.fin]
  | succ m =>
    have hi : m < l.length := by omega
    have hk := g.kind m hi
    have ht := tAt_eq l x c m hi
    unfold Sp.stepT at ht
    rw [kindAt_eq l m hi, valAt_eq l m hi] at ht
    have hm1 : ((m + 1 : Nat) : Int) - 1 = (m : Int) := by omega
    have hrk := rank_succ l m hi
    have hrl := rank_le (l := l) (i := m + 1) (by omega)
    have hr6 := g.ah
    rw [hm1]
    by_cases hA : l[m].kind = 13 ∨ l[m].kind = 11 ∨ l[m].kind = 12
    · rw [if_neg (show ¬ aheadP l[m].kind by unfold aheadP; omega), Nat.add_zero] at hrk
      have hT1 := True.intro
      have hT2 := True.intro
      have hv := g.prop m hi
      by_cases hk13 : l[m].kind = 13
      · obtain ⟨v0, v1⟩ := hv hk13
        repeat' (first
          | ((with_reducible apply call0); (focus rfl); (focus exact cal_Ahead); (focus exact hA); (focus rfl))
          | ((with_reducible apply je_call0); (focus rfl); (focus (decide +kernel)); (focus rfl); (focus exact cal_Ahead); (focus exact hA); (focus rfl))
          | ((with_reducible apply call0); (focus rfl); (focus exact cal_Ends); (focus exact hE); (focus rfl))
          | ((with_reducible apply je_call0); (focus rfl); (focus (decide +kernel)); (focus rfl); (focus exact cal_Ends); (focus exact hE); (focus rfl))
          | ((with_reducible apply jboxT); (focus rfl); (focus rfl); (focus rfl))
          | ((with_reducible apply jalloc1T); (focus (with_reducible exact ElC.h)); (focus rfl); (focus rfl))
          | ((with_reducible apply jallocN); (focus (with_reducible exact ElC.h)); (focus rfl))
          | ((with_reducible apply jmk_bool); (focus rfl); (focus rfl); (focus (with_reducible exact ElC.h)); (focus omega); (focus omega); (focus rfl))
          | ((with_reducible apply jmk_int); (focus rfl); (focus rfl); (focus (with_reducible exact ElC.h)); (focus omega); (focus omega); (focus rfl))
          | ((with_reducible apply js_um); (focus rfl); (focus ((repeat (first | with_reducible exact Upd.here | with_reducible apply Upd.there)); done)); (focus rfl); (focus rfl); (focus (with_reducible exact ElC.h)); (focus (first | omega | (simp only [List.length_map, List.length_range, List.length_append, List.length_cons, List.length_nil, List.length_take, List.length_drop, List.length_set, List.length_replicate]; omega))))
          | ((with_reducible apply js_uw); (focus rfl); (focus rfl); (focus rfl); (focus (with_reducible exact ElC.h)); (focus rfl); (focus ((repeat (first | with_reducible exact Upd.here | with_reducible apply Upd.there)); done)); (focus rfl))
          | ((with_reducible apply js_ur); (focus rfl); (focus rfl); (focus rfl); (focus (with_reducible exact ElC.h)); (focus ((repeat (first | with_reducible exact Upd.here | with_reducible apply Upd.there)); done)); (focus ((repeat (first | exact SetAR.nil | apply SetAR.put | apply SetAR.skip)); done)))
          | ((with_reducible apply js_us); (focus rfl); (focus rfl); (focus rfl); (focus (with_reducible exact ElC.h)); (focus rfl); (focus ((repeat (first | with_reducible exact Upd.here | with_reducible apply Upd.there)); done)); (focus ((repeat (first | exact SetAR.nil | apply SetAR.put | apply SetAR.skip)); done)))
          | ((with_reducible apply jqbor); (focus rfl); (focus rfl); (focus exact cal_Truths1); (focus exact hT1); (focus exact ⟨bor_ptr (List.mem_cons_of_mem _ List.mem_cons_self) ⟨bord_bools (List.mem_cons_of_mem _ (List.mem_cons_of_mem _ List.mem_cons_self)) d.len (by omega), trivial⟩, bor_ptr List.mem_cons_self ⟨bord_int' rfl, trivial⟩, trivial⟩); (focus rfl))
          | ((with_reducible apply jqbor); (focus rfl); (focus rfl); (focus exact cal_Truths2); (focus exact hT2); (focus exact ⟨bor_ptr (List.mem_cons_of_mem _ List.mem_cons_self) ⟨bord_bools (List.mem_cons_of_mem _ (List.mem_cons_of_mem _ List.mem_cons_self)) d.len (by omega), trivial⟩, bor_ptr (List.mem_cons_of_mem _ (List.mem_cons_of_mem _ (List.mem_cons_of_mem _ List.mem_cons_self))) ⟨bord_d _ _, trivial⟩, bor_ptr List.mem_cons_self ⟨bord_int' rfl, trivial⟩, trivial⟩); (focus rfl))
          | exact True.intro
          | refine stp ?_
          | refine two ?_ ?_
          | (refine imp fun hc => ?_) <;> try (first | contradiction | (exfalso; omega))
          | refine all fun v_ => ?_)
        try simp only [Int.toNat_natCast, Nat.mul_one]
        refine ⟨(m, out.set m (x[l[m].val.toNat]'(by omega)), v_), ⟨by dsimp only; omega, ?_⟩, by dsimp only; omega, vle (.cons_cons _ (.cons _ (List.Sublist.refl _))) ?_⟩
        rotate_left
        · repeat (first
            | exact Env.le_nil _
            | refine Env.le_cons (AV.le_refl _) ?_
            | refine Env.le_cons (AV.le_int rfl (by first | rfl | omega | (dsimp only; omega))) ?_)
        refine d.next hi ?_
        rw [ht, if_pos hk13, List.getElem?_eq_getElem (by omega)]; rfl
      repeat' (first
        | ((with_reducible apply call0); (focus rfl); (focus exact cal_Ahead); (focus exact hA); (focus rfl))
        | ((with_reducible apply je_call0); (focus rfl); (focus (decide +kernel)); (focus rfl); (focus exact cal_Ahead); (focus exact hA); (focus rfl))
        | ((with_reducible apply call0); (focus rfl); (focus exact cal_Ends); (focus exact hE); (focus rfl))
        | ((with_reducible apply je_call0); (focus rfl); (focus (decide +kernel)); (focus rfl); (focus exact cal_Ends); (focus exact hE); (focus rfl))
        | ((with_reducible apply jboxT); (focus rfl); (focus rfl); (focus rfl))
        | ((with_reducible apply jalloc1T); (focus (with_reducible exact ElC.h)); (focus rfl); (focus rfl))
        | ((with_reducible apply jallocN); (focus (with_reducible exact ElC.h)); (focus rfl))
        | ((with_reducible apply jmk_bool); (focus rfl); (focus rfl); (focus (with_reducible exact ElC.h)); (focus omega); (focus omega); (focus rfl))
        | ((with_reducible apply jmk_int); (focus rfl); (focus rfl); (focus (with_reducible exact ElC.h)); (focus omega); (focus omega); (focus rfl))
        | ((with_reducible apply js_um); (focus rfl); (focus ((repeat (first | with_reducible exact Upd.here | with_reducible apply Upd.there)); done)); (focus rfl); (focus rfl); (focus (with_reducible exact ElC.h)); (focus (first | omega | (simp only [List.length_map, List.length_range, List.length_append, List.length_cons, List.length_nil, List.length_take, List.length_drop, List.length_set, List.length_replicate]; omega))))
        | ((with_reducible apply js_uw); (focus rfl); (focus rfl); (focus rfl); (focus (with_reducible exact ElC.h)); (focus rfl); (focus ((repeat (first | with_reducible exact Upd.here | with_reducible apply Upd.there)); done)); (focus rfl))
        | ((with_reducible apply js_ur); (focus rfl); (focus rfl); (focus rfl); (focus (with_reducible exact ElC.h)); (focus ((repeat (first | with_reducible exact Upd.here | with_reducible apply Upd.there)); done)); (focus ((repeat (first | exact SetAR.nil | apply SetAR.put | apply SetAR.skip)); done)))
        | ((with_reducible apply js_us); (focus rfl); (focus rfl); (focus rfl); (focus (with_reducible exact ElC.h)); (focus rfl); (focus ((repeat (first | with_reducible exact Upd.here | with_reducible apply Upd.there)); done)); (focus ((repeat (first | exact SetAR.nil | apply SetAR.put | apply SetAR.skip)); done)))
        | ((with_reducible apply jqbor); (focus rfl); (focus rfl); (focus exact cal_Truths1); (focus exact hT1); (focus exact ⟨bor_ptr (List.mem_cons_of_mem _ List.mem_cons_self) ⟨bord_bools (List.mem_cons_of_mem _ (List.mem_cons_of_mem _ List.mem_cons_self)) d.len (by omega), trivial⟩, bor_ptr List.mem_cons_self ⟨bord_int' rfl, trivial⟩, trivial⟩); (focus rfl))
        | ((with_reducible apply jqbor); (focus rfl); (focus rfl); (focus exact cal_Truths2); (focus exact hT2); (focus exact ⟨bor_ptr (List.mem_cons_of_mem _ List.mem_cons_self) ⟨bord_bools (List.mem_cons_of_mem _ (List.mem_cons_of_mem _ List.mem_cons_self)) d.len (by omega), trivial⟩, bor_ptr (List.mem_cons_of_mem _ (List.mem_cons_of_mem _ (List.mem_cons_of_mem _ List.mem_cons_self))) ⟨bord_d _ _, trivial⟩, bor_ptr List.mem_cons_self ⟨bord_int' rfl, trivial⟩, trivial⟩); (focus rfl))
        | exact True.intro
        | refine stp ?_
        | refine two ?_ ?_
        | (refine imp fun hc => ?_) <;> try (first | contradiction | (exfalso; omega))
        | refine all fun v_ => ?_)
      · try simp only [Int.toNat_natCast, Nat.mul_one]
        refine ⟨(m, out.set m true, v_), ⟨by dsimp only; omega, ?_⟩, by dsimp only; omega, vle (.cons_cons _ (.cons _ (List.Sublist.refl _))) ?_⟩
        rotate_left
        · repeat (first
            | exact Env.le_nil _
            | refine Env.le_cons (AV.le_refl _) ?_
            | refine Env.le_cons (AV.le_int rfl (by first | rfl | omega | (dsimp only; omega))) ?_)
        refine d.next hi ?_
        rw [ht, if_neg hk13, if_pos (by omega)]
      · try simp only [Int.toNat_natCast, Nat.mul_one]
        refine ⟨(m, out, v_), ⟨by dsimp only; omega, ?_⟩, by dsimp only; omega, vle (.cons_cons _ (.cons _ (List.Sublist.refl _))) ?_⟩
        rotate_left
        · repeat (first
            | exact Env.le_nil _
            | refine Env.le_cons (AV.le_refl _) ?_
            | refine Env.le_cons (AV.le_int rfl (by first | rfl | omega | (dsimp only; omega))) ?_)
        refine d.no hi ?_
        rw [ht, if_neg hk13, if_neg (by omega), if_pos (by omega)]
    by_cases hB : l[m].kind = 10
    · rw [if_neg (show ¬ aheadP l[m].kind by unfold aheadP; omega), Nat.add_zero] at hrk
      obtain ⟨q1, q2, q3, q4, q5⟩ := first_in hi (g.well m hi) (by rw [hB]; decide)
      have hT1 := Truths1 GP out m (by omega) (by omega)
      rw [d.get (Nat.le_refl _) q1] at hT1
      have hT2 := True.intro
      repeat' (first
        | ((with_reducible apply call0); (focus rfl); (focus exact cal_Ahead); (focus exact hA); (focus rfl))
        | ((with_reducible apply je_call0); (focus rfl); (focus (decide +kernel)); (focus rfl); (focus exact cal_Ahead); (focus exact hA); (focus rfl))
        | ((with_reducible apply call0); (focus rfl); (focus exact cal_Ends); (focus exact hE); (focus rfl))
        | ((with_reducible apply je_call0); (focus rfl); (focus (decide +kernel)); (focus rfl); (focus exact cal_Ends); (focus exact hE); (focus rfl))
        | ((with_reducible apply jboxT); (focus rfl); (focus rfl); (focus rfl))
        | ((with_reducible apply jalloc1T); (focus (with_reducible exact ElC.h)); (focus rfl); (focus rfl))
        | ((with_reducible apply jallocN); (focus (with_reducible exact ElC.h)); (focus rfl))
        | ((with_reducible apply jmk_bool); (focus rfl); (focus rfl); (focus (with_reducible exact ElC.h)); (focus omega); (focus omega); (focus rfl))
        | ((with_reducible apply jmk_int); (focus rfl); (focus rfl); (focus (with_reducible exact ElC.h)); (focus omega); (focus omega); (focus rfl))
        | ((with_reducible apply js_um); (focus rfl); (focus ((repeat (first | with_reducible exact Upd.here | with_reducible apply Upd.there)); done)); (focus rfl); (focus rfl); (focus (with_reducible exact ElC.h)); (focus (first | omega | (simp only [List.length_map, List.length_range, List.length_append, List.length_cons, List.length_nil, List.length_take, List.length_drop, List.length_set, List.length_replicate]; omega))))
        | ((with_reducible apply js_uw); (focus rfl); (focus rfl); (focus rfl); (focus (with_reducible exact ElC.h)); (focus rfl); (focus ((repeat (first | with_reducible exact Upd.here | with_reducible apply Upd.there)); done)); (focus rfl))
        | ((with_reducible apply js_ur); (focus rfl); (focus rfl); (focus rfl); (focus (with_reducible exact ElC.h)); (focus ((repeat (first | with_reducible exact Upd.here | with_reducible apply Upd.there)); done)); (focus ((repeat (first | exact SetAR.nil | apply SetAR.put | apply SetAR.skip)); done)))
        | ((with_reducible apply js_us); (focus rfl); (focus rfl); (focus rfl); (focus (with_reducible exact ElC.h)); (focus rfl); (focus ((repeat (first | with_reducible exact Upd.here | with_reducible apply Upd.there)); done)); (focus ((repeat (first | exact SetAR.nil | apply SetAR.put | apply SetAR.skip)); done)))
        | ((with_reducible apply jqbor); (focus rfl); (focus rfl); (focus exact cal_Truths1); (focus exact hT1); (focus exact ⟨bor_ptr (List.mem_cons_of_mem _ List.mem_cons_self) ⟨bord_bools (List.mem_cons_of_mem _ (List.mem_cons_of_mem _ List.mem_cons_self)) d.len (by omega), trivial⟩, bor_ptr List.mem_cons_self ⟨bord_int' rfl, trivial⟩, trivial⟩); (focus rfl))
        | ((with_reducible apply jqbor); (focus rfl); (focus rfl); (focus exact cal_Truths2); (focus exact hT2); (focus exact ⟨bor_ptr (List.mem_cons_of_mem _ List.mem_cons_self) ⟨bord_bools (List.mem_cons_of_mem _ (List.mem_cons_of_mem _ List.mem_cons_self)) d.len (by omega), trivial⟩, bor_ptr (List.mem_cons_of_mem _ (List.mem_cons_of_mem _ (List.mem_cons_of_mem _ List.mem_cons_self))) ⟨bord_d _ _, trivial⟩, bor_ptr List.mem_cons_self ⟨bord_int' rfl, trivial⟩, trivial⟩); (focus rfl))
        | exact True.intro
        | refine stp ?_
        | refine two ?_ ?_
        | (refine imp fun hc => ?_) <;> try (first | contradiction | (exfalso; omega))
        | refine all fun v_ => ?_)
      try simp only [Int.toNat_natCast, Nat.mul_one]
      refine ⟨(m, out.set m (!tAt l x c (m + 1)), v_), ⟨by dsimp only; omega, ?_⟩, by dsimp only; omega, vle (.cons_cons _ (.cons _ (List.Sublist.refl _))) ?_⟩
      rotate_left
      · repeat (first
          | exact Env.le_nil _
          | refine Env.le_cons (AV.le_refl _) ?_
          | refine Env.le_cons (AV.le_int rfl (by first | rfl | omega | (dsimp only; omega))) ?_)
      refine d.next hi ?_
      rw [ht, if_neg (by omega), if_neg (by omega), if_neg (by omega), if_pos hB]
    by_cases hC : l[m].kind = 8 ∨ l[m].kind = 9
    · rw [if_neg (show ¬ aheadP l[m].kind by unfold aheadP; omega), Nat.add_zero] at hrk
      obtain ⟨q1, q2, q3, q4, q5⟩ := first_in hi (g.well m hi) (by rcases hC with h | h <;> rw [h] <;> decide)
      obtain ⟨r1, r2⟩ := second_in hi (g.well m hi) (by rcases hC with h | h <;> rw [h] <;> decide)
      have hT1 := Truths1 GP out m (by omega) (by omega)
      rw [d.get (Nat.le_refl _) q1] at hT1
      have he1 : es[m + 1] = (second l m : Int) := by rw [hes (m + 1) (by omega), ← q4]
      have hT2 := Truths2 GP out es m (by omega) (by omega) (by omega) (by omega)
      simp only [he1, Int.toNat_natCast] at hT2
      rw [d.get (by omega) r1] at hT2
      rw [if_pos (show m < second l m by omega), if_neg (by omega), if_neg (by omega), if_neg (by omega), if_neg (by omega)] at ht
      cases hgA : tAt l x c (m + 1) <;> cases hgB : tAt l x c (second l m) <;> rw [hgA] at hT1 ht <;> rw [hgB] at hT2 ht
      all_goals
        repeat' (first
          | ((with_reducible apply call0); (focus rfl); (focus exact cal_Ahead); (focus exact hA); (focus rfl))
          | ((with_reducible apply je_call0); (focus rfl); (focus (decide +kernel)); (focus rfl); (focus exact cal_Ahead); (focus exact hA); (focus rfl))
          | ((with_reducible apply call0); (focus rfl); (focus exact cal_Ends); (focus exact hE); (focus rfl))
          | ((with_reducible apply je_call0); (focus rfl); (focus (decide +kernel)); (focus rfl); (focus exact cal_Ends); (focus exact hE); (focus rfl))
          | ((with_reducible apply jboxT); (focus rfl); (focus rfl); (focus rfl))
          | ((with_reducible apply jalloc1T); (focus (with_reducible exact ElC.h)); (focus rfl); (focus rfl))
          | ((with_reducible apply jallocN); (focus (with_reducible exact ElC.h)); (focus rfl))
          | ((with_reducible apply jmk_bool); (focus rfl); (focus rfl); (focus (with_reducible exact ElC.h)); (focus omega); (focus omega); (focus rfl))
          | ((with_reducible apply jmk_int); (focus rfl); (focus rfl); (focus (with_reducible exact ElC.h)); (focus omega); (focus omega); (focus rfl))
          | ((with_reducible apply js_um); (focus rfl); (focus ((repeat (first | with_reducible exact Upd.here | with_reducible apply Upd.there)); done)); (focus rfl); (focus rfl); (focus (with_reducible exact ElC.h)); (focus (first | omega | (simp only [List.length_map, List.length_range, List.length_append, List.length_cons, List.length_nil, List.length_take, List.length_drop, List.length_set, List.length_replicate]; omega))))
          | ((with_reducible apply js_uw); (focus rfl); (focus rfl); (focus rfl); (focus (with_reducible exact ElC.h)); (focus rfl); (focus ((repeat (first | with_reducible exact Upd.here | with_reducible apply Upd.there)); done)); (focus rfl))
          | ((with_reducible apply js_ur); (focus rfl); (focus rfl); (focus rfl); (focus (with_reducible exact ElC.h)); (focus ((repeat (first | with_reducible exact Upd.here | with_reducible apply Upd.there)); done)); (focus ((repeat (first | exact SetAR.nil | apply SetAR.put | apply SetAR.skip)); done)))
          | ((with_reducible apply js_us); (focus rfl); (focus rfl); (focus rfl); (focus (with_reducible exact ElC.h)); (focus rfl); (focus ((repeat (first | with_reducible exact Upd.here | with_reducible apply Upd.there)); done)); (focus ((repeat (first | exact SetAR.nil | apply SetAR.put | apply SetAR.skip)); done)))
          | ((with_reducible apply jqbor); (focus rfl); (focus rfl); (focus exact cal_Truths1); (focus exact hT1); (focus exact ⟨bor_ptr (List.mem_cons_of_mem _ List.mem_cons_self) ⟨bord_bools (List.mem_cons_of_mem _ (List.mem_cons_of_mem _ List.mem_cons_self)) d.len (by omega), trivial⟩, bor_ptr List.mem_cons_self ⟨bord_int' rfl, trivial⟩, trivial⟩); (focus rfl))
          | ((with_reducible apply jqbor); (focus rfl); (focus rfl); (focus exact cal_Truths2); (focus exact hT2); (focus exact ⟨bor_ptr (List.mem_cons_of_mem _ List.mem_cons_self) ⟨bord_bools (List.mem_cons_of_mem _ (List.mem_cons_of_mem _ List.mem_cons_self)) d.len (by omega), trivial⟩, bor_ptr (List.mem_cons_of_mem _ (List.mem_cons_of_mem _ (List.mem_cons_of_mem _ List.mem_cons_self))) ⟨bord_d _ _, trivial⟩, bor_ptr List.mem_cons_self ⟨bord_int' rfl, trivial⟩, trivial⟩); (focus rfl))
          | exact True.intro
          | refine stp ?_
          | refine two ?_ ?_
          | (refine imp fun hc => ?_) <;> try (first | contradiction | (exfalso; omega))
          | refine all fun v_ => ?_)
      all_goals first
        | (try simp only [Int.toNat_natCast, Nat.mul_one]
           refine ⟨(m, out.set m true, v_), ⟨by dsimp only; omega, ?_⟩, by dsimp only; omega, vle (.cons_cons _ (.cons _ (List.Sublist.refl _))) ?_⟩
           rotate_left
           · repeat (first
               | exact Env.le_nil _
               | refine Env.le_cons (AV.le_refl _) ?_
               | refine Env.le_cons (AV.le_int rfl (by first | rfl | omega | (dsimp only; omega))) ?_)
           refine d.next hi ?_
           rw [ht]
           first
             | (rw [if_pos (by omega)]; rfl)
             | (rw [if_neg (by omega), if_pos (by omega)]; rfl))
        | (try simp only [Int.toNat_natCast, Nat.mul_one]
           refine ⟨(m, out.set m false, v_), ⟨by dsimp only; omega, ?_⟩, by dsimp only; omega, vle (.cons_cons _ (.cons _ (List.Sublist.refl _))) ?_⟩
           rotate_left
           · repeat (first
               | exact Env.le_nil _
               | refine Env.le_cons (AV.le_refl _) ?_
               | refine Env.le_cons (AV.le_int rfl (by first | rfl | omega | (dsimp only; omega))) ?_)
           refine d.next hi ?_
           rw [ht]
           first
             | (rw [if_pos (by omega)]; rfl)
             | (rw [if_neg (by omega), if_pos (by omega)]; rfl))
    have hah : aheadP l[m].kind := by unfold aheadP; omega
    rw [if_pos hah] at hrk
    have hT1 := True.intro
    have hT2 := True.intro
    have hcd : 0 ≤ c / 2 ^ (rank l m) := Int.ediv_nonneg hc0 (by exact_mod_cast Nat.zero_le _)
    have hcd2 : c / 2 ^ (rank l m) ≤ c := Int.ediv_le_self _ hc0
    have hrm : ((rank l m : Nat) : Int).toNat = rank l m := Int.toNat_natCast _
    rw [show ((rank l (m + 1) : Nat) : Int) = (rank l m : Nat) + 1 by omega]
    repeat' (first
      | ((with_reducible apply call0); (focus rfl); (focus exact cal_Ahead); (focus exact hA); (focus rfl))
      | ((with_reducible apply je_call0); (focus rfl); (focus (decide +kernel)); (focus rfl); (focus exact cal_Ahead); (focus exact hA); (focus rfl))
      | ((with_reducible apply call0); (focus rfl); (focus exact cal_Ends); (focus exact hE); (focus rfl))
      | ((with_reducible apply je_call0); (focus rfl); (focus (decide +kernel)); (focus rfl); (focus exact cal_Ends); (focus exact hE); (focus rfl))
      | ((with_reducible apply jboxT); (focus rfl); (focus rfl); (focus rfl))
      | ((with_reducible apply jalloc1T); (focus (with_reducible exact ElC.h)); (focus rfl); (focus rfl))
      | ((with_reducible apply jallocN); (focus (with_reducible exact ElC.h)); (focus rfl))
      | ((with_reducible apply jmk_bool); (focus rfl); (focus rfl); (focus (with_reducible exact ElC.h)); (focus omega); (focus omega); (focus rfl))
      | ((with_reducible apply jmk_int); (focus rfl); (focus rfl); (focus (with_reducible exact ElC.h)); (focus omega); (focus omega); (focus rfl))
      | ((with_reducible apply js_um); (focus rfl); (focus ((repeat (first | with_reducible exact Upd.here | with_reducible apply Upd.there)); done)); (focus rfl); (focus rfl); (focus (with_reducible exact ElC.h)); (focus (first | omega | (simp only [List.length_map, List.length_range, List.length_append, List.length_cons, List.length_nil, List.length_take, List.length_drop, List.length_set, List.length_replicate]; omega))))
      | ((with_reducible apply js_uw); (focus rfl); (focus rfl); (focus rfl); (focus (with_reducible exact ElC.h)); (focus rfl); (focus ((repeat (first | with_reducible exact Upd.here | with_reducible apply Upd.there)); done)); (focus rfl))
      | ((with_reducible apply js_ur); (focus rfl); (focus rfl); (focus rfl); (focus (with_reducible exact ElC.h)); (focus ((repeat (first | with_reducible exact Upd.here | with_reducible apply Upd.there)); done)); (focus ((repeat (first | exact SetAR.nil | apply SetAR.put | apply SetAR.skip)); done)))
      | ((with_reducible apply js_us); (focus rfl); (focus rfl); (focus rfl); (focus (with_reducible exact ElC.h)); (focus rfl); (focus ((repeat (first | with_reducible exact Upd.here | with_reducible apply Upd.there)); done)); (focus ((repeat (first | exact SetAR.nil | apply SetAR.put | apply SetAR.skip)); done)))
      | ((with_reducible apply jqbor); (focus rfl); (focus rfl); (focus exact cal_Truths1); (focus exact hT1); (focus exact ⟨bor_ptr (List.mem_cons_of_mem _ List.mem_cons_self) ⟨bord_bools (List.mem_cons_of_mem _ (List.mem_cons_of_mem _ List.mem_cons_self)) d.len (by omega), trivial⟩, bor_ptr List.mem_cons_self ⟨bord_int' rfl, trivial⟩, trivial⟩); (focus rfl))
      | ((with_reducible apply jqbor); (focus rfl); (focus rfl); (focus exact cal_Truths2); (focus exact hT2); (focus exact ⟨bor_ptr (List.mem_cons_of_mem _ List.mem_cons_self) ⟨bord_bools (List.mem_cons_of_mem _ (List.mem_cons_of_mem _ List.mem_cons_self)) d.len (by omega), trivial⟩, bor_ptr (List.mem_cons_of_mem _ (List.mem_cons_of_mem _ (List.mem_cons_of_mem _ List.mem_cons_self))) ⟨bord_d _ _, trivial⟩, bor_ptr List.mem_cons_self ⟨bord_int' rfl, trivial⟩, trivial⟩); (focus rfl))
      | exact True.intro
      | refine stp ?_
      | refine two ?_ ?_
      | (refine imp fun hc => ?_) <;> try (first | contradiction | (exfalso; omega))
      | refine all fun v_ => ?_)
    simp only [Int.add_sub_cancel, Int.toNat_natCast, Nat.mul_one, and1 hcd (show c / 2 ^ rank l m ≤ 9223372036854775807 by omega)]
    try simp only [Int.toNat_natCast, Nat.mul_one]
    refine ⟨(m, out.set m (decide (c / 2 ^ rank l m % 2 = 1)), v_), ⟨by dsimp only; omega, ?_⟩, by dsimp only; omega, vle (.cons_cons _ (.cons _ (List.Sublist.refl _))) ?_⟩
    rotate_left
    · repeat (first
        | exact Env.le_nil _
        | refine Env.le_cons (AV.le_refl _) ?_
        | refine Env.le_cons (AV.le_int rfl (by first | rfl | omega | (dsimp only; omega))) ?_)
    refine d.next hi ?_
    rw [ht, if_neg (by omega), if_neg (by omega), if_neg (by omega), if_neg (by omega), if_neg (by omega), if_neg (by omega)]; rfl
end Go.Proofs.YtmamiihpghnmmaaDoor
namespace Go.Av
open Go Go.Sort Go.Proofs Go.Sp
set_option linter.unusedVariables false
set_option linter.unusedSimpArgs false

end Go.Av
namespace Go.Sp
open Go Go.Av
set_option linter.unusedVariables false
set_option linter.unusedSimpArgs false

theorem codeE_bound : ∀ (l : List Vr) (xs : List Int) (n p : Int), (∀ v ∈ l, 1 ≤ spanV v) → xs.length = l.length → 0 ≤ n → n + 1 ≤ p → (codeE n l xs).2 = 0 → 0 ≤ (codeE n l xs).1 ∧ (codeE n l xs).1 + 1 ≤ p * prodV l
  | [], [], n, p, _, _, h0, h1, _ => by simp only [codeE, prodV, Int.mul_one]; exact ⟨h0, h1⟩
  | [], _ :: _, _, _, _, h, _, _, _ => by simp at h
  | _ :: _, [], _, _, _, h, _, _, _ => by simp at h
  | v :: l, x :: xs, n, p, hs, hl, h0, h1, h2 => by
    rw [codeE] at h2 ⊢
    by_cases c : v.low ≤ x ∧ x ≤ v.high
    · rw [if_pos c] at h2 ⊢
      have hv := hs v List.mem_cons_self
      obtain ⟨_, s1, s2⟩ := horner_step (s := spanV v) (d := x - v.low) h0 h1 (by omega) (by unfold spanV; omega)
      have ih := codeE_bound l xs _ _ (fun w hw => hs w (List.mem_cons_of_mem _ hw)) (by simpa using hl) s1 s2 h2
      rw [prodV, ← Int.mul_assoc]
      exact ih
    · rw [if_neg c] at h2; exact absurd h2 (by decide)
theorem codeF_bound {m : Md} (hm : modelF m = 0) {xs : List Int} (hl : xs.length = m.vars.length) (h : (codeF m xs).2 = 0) : 0 ≤ (codeF m xs).1 ∧ (codeF m xs).1 < prodV m.vars := by
  rw [code_of hm hl] at h ⊢
  have := codeE_bound m.vars xs 0 1 (fun v hv => ((goodV (modelF_vars hm)).span v hv).1) hl (Int.le_refl _) (by omega) h
  omega
end Go.Sp
namespace Go.Sp
open Go Go.Av
set_option linter.unusedVariables false
set_option linter.unusedSimpArgs false
theorem aheads_few (l : List Fo) (p : Int) : (aheadsOf l p).1.length ≤ 6 := by
  unfold aheadsOf
  by_cases h : formF l p ≠ 0
  · rw [if_pos h]; exact Nat.zero_le _
  · rw [if_neg h, aheads_len]; exact (good_of (Decidable.not_not.1 h)).ah
def claimsF (t : Tk) : Nat := 2 ^ (aheadsOf t.formula t.props.length).1.length
theorem pow64 {n : Nat} (h : n ≤ 6) : 1 ≤ 2 ^ n ∧ 2 ^ n ≤ 64 := by
  have : n = 0 ∨ n = 1 ∨ n = 2 ∨ n = 3 ∨ n = 4 ∨ n = 5 ∨ n = 6 := by omega
  rcases this with rfl | rfl | rfl | rfl | rfl | rfl | rfl <;> decide
theorem claims_few (t : Tk) : 1 ≤ claimsF t ∧ claimsF t ≤ 64 := pow64 (aheads_few _ _)
theorem taskF_ok {t : Tk} (h : taskF t = 0) : propsF t.model t.props = 0 ∧ formF t.formula t.props.length = 0 ∧ modelF t.model = 0 := by
  unfold taskF at h
  by_cases c : propsF t.model t.props ≠ 0
  · rw [if_pos c] at h; exact absurd h c
  · rw [if_neg c] at h
    exact ⟨Decidable.not_not.1 c, h, (propsF_few (Decidable.not_not.1 c)).1⟩
noncomputable abbrev firstF (m : Md) : Int := (codeF m (inits m)).1
theorem first_ok {m : Md} (h : modelF m = 0) : (codeF m (inits m)).2 = 0 ∧ 0 ≤ firstF m ∧ firstF m < prodV m.vars := by
  have hl : (inits m).length = m.vars.length := by simp [inits]
  have h2 : (codeF m (inits m)).2 = 0 := by
    rw [code_of h hl]
    refine codeE_all _ _ _ fun i h1 h2 => ?_
    have := (goodV (modelF_vars h)).range m.vars[i] (List.getElem_mem h1)
    unfold rangeV at this
    simp only [inits, List.getElem_map]
    omega
  exact ⟨h2, codeF_bound h hl h2⟩
noncomputable abbrev lettF (t : Tk) (c : Int) : List Bool := (List.range t.props.length).map (letAt t.props (valsT t.model.vars c))
theorem lettF_ok {t : Tk} (h : taskF t = 0) {c : Int} (h0 : 0 ≤ c) (h1 : c < prodV t.model.vars) : letF t.model t.props c = (lettF t c, 0) := by
  obtain ⟨a1, a2, a3⟩ := taskF_ok h
  have hv : valsF t.model c = (valsT t.model.vars c, 0) := by unfold valsF; rw [if_neg (fun k => k a3), if_pos ⟨h0, h1⟩]
  unfold letF
  rw [if_neg (fun k => k a1), hv, if_neg (by simp)]
theorem lettF_len (t : Tk) (c : Int) : (lettF t c).length = t.props.length := by simp
theorem claims_eq {t : Tk} (h : taskF t = 0) : claimsF t = 2 ^ rank t.formula t.formula.length := by
  unfold claimsF aheadsOf
  rw [if_neg (fun k => k (taskF_ok h).2.1), aheads_len]
theorem truths_ok {t : Tk} (h : taskF t = 0) (x : List Bool) (hx : x.length = t.props.length) {c : Int} (h0 : 0 ≤ c) (h1 : c < claimsF t) : truthsOf t.formula x c = ((List.range t.formula.length).map (tAt t.formula x c), 0) := by
  have hf : formF t.formula x.length = 0 := by rw [hx]; exact (taskF_ok h).2.1
  have ha : aheadsOf t.formula x.length = (aheadL t.formula 0, 0) := by unfold aheadsOf; rw [if_neg (fun k => k hf)]
  unfold truthsOf
  rw [ha, if_neg (by simp), if_neg]
  rw [aheads_len]
  rw [claims_eq h] at h1
  have e : ((2 ^ rank t.formula t.formula.length : Nat) : Int) = 2 ^ rank t.formula t.formula.length := by simp
  omega
theorem truths_cons {l : List Fo} (h : 0 < l.length) (f : Nat → Bool) : ∃ r, (List.range l.length).map f = f 0 :: r := by
  cases hl : l.length with
  | zero => omega
  | succ n => exact ⟨_, by rw [List.range_succ_eq_map, List.map_cons]⟩
noncomputable def beginL (t : Tk) (n : Nat) : List Fo := ((List.range n).filter fun c : Nat => !tAt t.formula (lettF t (firstF t.model)) c 0).map fun c : Nat => ⟨firstF t.model, c⟩
theorem beginL_yes {t : Tk} {n : Nat} (h : tAt t.formula (lettF t (firstF t.model)) n 0 = false) : beginL t (n + 1) = beginL t n ++ [⟨firstF t.model, n⟩] := by
  unfold beginL
  rw [List.range_succ, List.filter_append, List.map_append]
  simp [h]
theorem beginL_no {t : Tk} {n : Nat} (h : tAt t.formula (lettF t (firstF t.model)) n 0 = true) : beginL t (n + 1) = beginL t n := by
  unfold beginL
  rw [List.range_succ, List.filter_append, List.map_append]
  simp [h]
theorem beginL_len (t : Tk) (n : Nat) : (beginL t n).length ≤ n := by
  unfold beginL
  rw [List.length_map]
  exact Nat.le_trans (List.length_filter_le _ _) (by simp)
noncomputable def beginF (t : Tk) : List Fo × Int := if taskF t ≠ 0 then ([], taskF t) else (beginL t (claimsF t), 0)
end Go.Sp
namespace Go.Proofs.YtmamiihpghnmmaaDoor
open Go Go.Av Go.Sp
set_option linter.unusedVariables false
set_option linter.unusedSimpArgs false
set_option maxRecDepth 100000
set_option maxHeartbeats 4000000
theorem cal_claims : Cal Tryd.prog 49 := Cal.of Tryd.func49 (by kernel_rfl) (by kernel_rfl)
theorem cal_manyClaims : Cal Tryd.prog 52 := Cal.of Tryd.func52 (by kernel_rfl) (by kernel_rfl)
theorem cal_Begin : Cal Tryd.prog 22 := Cal.of Tryd.func22 (by kernel_rfl) (by kernel_rfl)
theorem cal_BeginOf : Cal Tryd.prog 23 := Cal.of Tryd.func23 (by kernel_rfl) (by kernel_rfl)
theorem cal_sameSpots : Cal Tryd.prog 24 := Cal.of Tryd.func24 (by kernel_rfl) (by kernel_rfl)
theorem sameSpots (G : List (Nat × List D)) (a b : List Fo) : ACr Tryd.prog G 24 [.d (opsD a), .d (opsD b)] (.bool (decide (a = b))) := by
  refine AC_of (ts := [4]) 26 Tryd.func24 rfl rfl rfl (by simp) fun W I => ?_
  refine jfact (t := 0) rfl fun hl0 => ?_
  refine jfact (t := 1) rfl fun hl1 => ?_
  repeat' (first
    | exact True.intro
    | refine stp ?_
    | refine two ?_ ?_
    | (refine imp fun hc => ?_) <;> try (first | contradiction | (exfalso; omega))
    | refine all fun v_ => ?_)
  · ((with_reducible apply rq1); rfl; rfl)
    refine ret_eq ?_
    rw [decide_eq_false]
    intro e; subst e; omega
  refine J_loop (X := Nat) (fun i => [(0, .d (opsD a)), (1, .d (opsD b)), (5, .int i)]) (fun _ => []) (fun i => i ≤ a.length ∧ a.take i = b.take i) (fun i => a.length - i) 0 ⟨Nat.zero_le _, rfl⟩ ?_ rfl ?_
  · repeat (first
      | exact Env.le_nil _
      | refine Env.le_cons (AV.le_refl _) ?_
      | refine Env.le_cons (AV.le_int rfl (by first | rfl | omega | (dsimp only; omega))) ?_)
  rintro i ⟨h1, h2⟩
  repeat' (first
    | exact True.intro
    | refine stp ?_
    | refine two ?_ ?_
    | (refine imp fun hc => ?_) <;> try (first | contradiction | (exfalso; omega))
    | refine all fun v_ => ?_)
  all_goals first
    | (((with_reducible apply rq1); rfl; rfl)
       refine ret_eq ?_
       rw [decide_eq_false]
       intro e; subst e
       simp at hc)
    | (refine ⟨i + 1, ⟨by omega, take_step (by omega) (by omega) h2 ?_⟩, by first | omega | (dsimp only; omega), ?_, rfl⟩
       · (simp only [Bool.and_eq_true, beq_iff_eq] at hc; exact Fo.ext' hc.1 hc.2)
       · repeat (first
           | exact Env.le_nil _
           | refine Env.le_cons (AV.le_refl _) ?_
           | refine Env.le_cons (AV.le_int rfl (by first | rfl | omega | (dsimp only; omega))) ?_))
    | (((with_reducible apply rq1); rfl; rfl)
       refine ret_eq ?_
       rw [decide_eq_true]
       rwa [List.take_of_length_le (by omega), List.take_of_length_le (by omega)] at h2)
theorem claims (t : Tk) : ACr Tryd.prog GP 49 [tkA t] (.int (claimsF t)) := by
  have hA := Ahead t.formula t.props.length
  have hfew := aheads_few t.formula t.props.length
  unfold claimsF
  generalize aheadsOf t.formula t.props.length = q at hA hfew ⊢
  obtain ⟨ps, e⟩ := q
  dsimp only at hA hfew ⊢
  have hp := pow64 hfew
  have hi : (1 : Int) * 2 ^ (ps.length : Int).toNat = ((2 ^ ps.length : Nat) : Int) := by simp
  refine AC_ofV (ts := [2]) Tryd.f49.ntmps Tryd.func49 rfl rfl rfl (by simp [Tryd.ntmps49]) fun W I => ?_
  have hin : inI64 ((1 : Int) * 2 ^ (ps.length : Int).toNat) := by rw [hi]; generalize (2 ^ ps.length : Nat) = x at hp ⊢; unfold inI64; omega
  all_goals haveI fA_ : FlagA := ⟨⟩
  all_goals haveI fH_ : FlagH := ⟨⟩
  repeat' (first
    | ((with_reducible apply call0); (focus rfl); (focus exact cal_Ahead); (focus exact hA); (focus rfl))
    | ((with_reducible apply je_call0); (focus rfl); (focus (decide +kernel)); (focus rfl); (focus exact cal_Ahead); (focus exact hA); (focus rfl))
    | exact True.intro
    | refine stp ?_
    | refine two ?_ ?_
    | refine allc fun c_ => ?_
    | (refine imp fun hc => ?_) <;> try (first | contradiction | (exfalso; omega) | (exfalso; exact absurd (of_dT hc) (by assumption)) | (exfalso; exact of_dF hc (by assumption)))
    | refine all fun v_ => ?_)
  all_goals clear fA_ fH_
  refine retv (VS.drop (List.nil_sublist _)) ?_
  ((with_reducible apply rq1); rfl; rfl)
  exact ret_eq (by rw [← hi])
theorem manyClaims (G : List (Nat × List D)) (t : Tk) : ACr Tryd.prog G 52 [tkA t] (.int (claimsF t)) := by
  have hA := AheadOf G t.formula t.props.length
  have hfew := aheads_few t.formula t.props.length
  unfold claimsF
  generalize aheadsOf t.formula t.props.length = q at hA hfew ⊢
  obtain ⟨ps, e⟩ := q
  dsimp only at hA hfew ⊢
  refine AC_ofV (ts := [2]) Tryd.f52.ntmps Tryd.func52 rfl rfl rfl (by simp [Tryd.ntmps52]) fun W I => ?_
  all_goals haveI fA_ : FlagA := ⟨⟩
  all_goals haveI fH_ : FlagH := ⟨⟩
  repeat' (first
    | ((with_reducible apply call0); (focus rfl); (focus exact cal_AheadOf); (focus exact hA); (focus rfl))
    | ((with_reducible apply je_call0); (focus rfl); (focus (decide +kernel)); (focus rfl); (focus exact cal_AheadOf); (focus exact hA); (focus rfl))
    | exact True.intro
    | refine stp ?_
    | refine two ?_ ?_
    | refine allc fun c_ => ?_
    | (refine imp fun hc => ?_) <;> try (first | contradiction | (exfalso; omega) | (exfalso; exact absurd (of_dT hc) (by assumption)) | (exfalso; exact of_dF hc (by assumption)))
    | refine all fun v_ => ?_)
  all_goals clear fA_ fH_
  refine J_loopV (X := Nat) (fun i => [(3, .d (intsD ps)), (5, .int (2 ^ i : Nat)), (6, .int i)]) (fun _ => []) (fun i => i ≤ ps.length) (fun i => ps.length - i) 0 (Nat.zero_le _) (VS.trans (VS.drop (List.nil_sublist _)) (VS.of_le ?_)) ?_
  · repeat (first
      | exact Env.le_nil _
      | refine Env.le_cons (AV.le_refl _) ?_
      | refine Env.le_cons (AV.le_int rfl (by first | rfl | omega | (dsimp only; omega))) ?_)
  rintro i hi
  have hp := pow64 (n := i) (by omega)
  have e2 : ((2 ^ i : Nat) : Int) * 2 = ((2 ^ (i + 1) : Nat) : Int) := by rw [Nat.pow_succ]; omega
  generalize hx : (2 ^ i : Nat) = x at hp e2 ⊢
  by_cases hil : i < ps.length
  · all_goals haveI fA_ : FlagA := ⟨⟩
    all_goals haveI fH_ : FlagH := ⟨⟩
    repeat' (first
      | ((with_reducible apply call0); (focus rfl); (focus exact cal_AheadOf); (focus exact hA); (focus rfl))
      | ((with_reducible apply je_call0); (focus rfl); (focus (decide +kernel)); (focus rfl); (focus exact cal_AheadOf); (focus exact hA); (focus rfl))
      | exact True.intro
      | refine stp ?_
      | refine two ?_ ?_
      | refine allc fun c_ => ?_
      | (refine imp fun hc => ?_) <;> try (first | contradiction | (exfalso; omega) | (exfalso; exact absurd (of_dT hc) (by assumption)) | (exfalso; exact of_dF hc (by assumption)))
      | refine all fun v_ => ?_)
    all_goals clear fA_ fH_
    refine ⟨i + 1, by omega, by omega, VS.of_le ?_⟩
    rw [e2]
    repeat (first
      | exact Env.le_nil _
      | refine Env.le_cons (AV.le_refl _) ?_
      | refine Env.le_cons (AV.le_int rfl (by first | rfl | omega | (dsimp only; omega))) ?_)
  obtain rfl : i = ps.length := by omega
  all_goals haveI fA_ : FlagA := ⟨⟩
  all_goals haveI fH_ : FlagH := ⟨⟩
  repeat' (first
    | ((with_reducible apply call0); (focus rfl); (focus exact cal_AheadOf); (focus exact hA); (focus rfl))
    | ((with_reducible apply je_call0); (focus rfl); (focus (decide +kernel)); (focus rfl); (focus exact cal_AheadOf); (focus exact hA); (focus rfl))
    | exact True.intro
    | refine stp ?_
    | refine two ?_ ?_
    | refine allc fun c_ => ?_
    | (refine imp fun hc => ?_) <;> try (first | contradiction | (exfalso; omega) | (exfalso; exact absurd (of_dT hc) (by assumption)) | (exfalso; exact of_dF hc (by assumption)))
    | refine all fun v_ => ?_)
  all_goals clear fA_ fH_
  refine retv (VS.drop (List.nil_sublist _)) ?_
  ((with_reducible apply rq1); rfl; rfl)
  exact ret_eq (by rw [hx])
theorem Begin (t : Tk) : ACr Tryd.prog GP 22 [tkA t] (.tup [.d (opsD (beginF t).1), .int (beginF t).2]) := by
  have hP := PCheck t
  unfold beginF
  refine AC_ofV (ts := [2, 3]) Tryd.f22.ntmps Tryd.func22 rfl rfl rfl (by simp [Tryd.ntmps22]) fun W I => ?_
  by_cases h1 : taskF t ≠ 0
  · rw [if_pos h1]
    generalize taskF t = e at hP h1
    all_goals haveI fA_ : FlagA := ⟨⟩
    all_goals haveI fH_ : FlagH := ⟨⟩
    repeat' (first
      | ((with_reducible apply call0); (focus rfl); (focus exact cal_PCheck); (focus exact hP); (focus rfl))
      | ((with_reducible apply je_call0); (focus rfl); (focus (decide +kernel)); (focus rfl); (focus exact cal_PCheck); (focus exact hP); (focus rfl))
      | exact True.intro
      | refine stp ?_
      | refine two ?_ ?_
      | refine allc fun c_ => ?_
      | (refine imp fun hc => ?_) <;> try (first | contradiction | (exfalso; omega) | (exfalso; exact absurd (of_dT hc) (by assumption)) | (exfalso; exact of_dF hc (by assumption)))
      | refine all fun v_ => ?_)
    all_goals clear fA_ fH_
    refine retv (VS.trans (VS.drop (List.nil_sublist _)) (vnil (t := 2) 2 16 rfl)) ?_
    ((with_reducible apply rq2); rfl; rfl; rfl)
    exact ret_eq rfl
  rw [if_neg h1]
  replace h1 := Decidable.not_not.1 h1
  rw [h1] at hP
  obtain ⟨a1, a2, a3⟩ := taskF_ok h1
  obtain ⟨f1, f2, f3⟩ := first_ok a3
  have gf := good_of a2
  have hpos := gf.pos
  have h60 := gf.h60
  have hF : ACr Tryd.prog GP 48 [mdA t.model] (.tup [.int (firstF t.model), .int 0]) := by
    have h := First t.model
    rw [f1] at h
    exact h
  have hL := Letter t.model t.props (firstF t.model)
  have hM := claims t
  rw [lettF_ok h1 f2 f3] at hL
  dsimp only at hL
  obtain ⟨m1, m2⟩ := claims_few t
  have hll := lettF_len t (firstF t.model)
  have hin : ∀ n : Nat, n < claimsF t → truthsOf t.formula (lettF t (firstF t.model)) n = ((List.range t.formula.length).map (tAt t.formula (lettF t (firstF t.model)) n), 0) := fun n hn => truths_ok h1 _ hll (by omega) (by omega)
  have hyes := fun n => beginL_yes (t := t) (n := n)
  have hno := fun n => beginL_no (t := t) (n := n)
  have hbl := beginL_len t
  have hb0 : beginL t 0 = [] := rfl
  generalize beginL t = B at hyes hno hbl hb0 ⊢
  generalize lettF t (firstF t.model) = lt at hL hll hin hyes hno
  generalize firstF t.model = fst at hF hL f2 f3 hyes hno
  generalize claimsF t = N at hM m1 m2 hin ⊢
  all_goals haveI fA_ : FlagA := ⟨⟩
  all_goals haveI fH_ : FlagH := ⟨⟩
  repeat' (first
    | ((with_reducible apply call0); (focus rfl); (focus exact cal_PCheck); (focus exact hP); (focus rfl))
    | ((with_reducible apply je_call0); (focus rfl); (focus (decide +kernel)); (focus rfl); (focus exact cal_PCheck); (focus exact hP); (focus rfl))
    | ((with_reducible apply call0); (focus rfl); (focus exact cal_First); (focus exact hF); (focus rfl))
    | ((with_reducible apply je_call0); (focus rfl); (focus (decide +kernel)); (focus rfl); (focus exact cal_First); (focus exact hF); (focus rfl))
    | ((with_reducible apply call0); (focus rfl); (focus exact cal_Letter); (focus exact hL); (focus rfl))
    | ((with_reducible apply je_call0); (focus rfl); (focus (decide +kernel)); (focus rfl); (focus exact cal_Letter); (focus exact hL); (focus rfl))
    | ((with_reducible apply call0); (focus rfl); (focus exact cal_claims); (focus exact hM); (focus rfl))
    | ((with_reducible apply je_call0); (focus rfl); (focus (decide +kernel)); (focus rfl); (focus exact cal_claims); (focus exact hM); (focus rfl))
    | exact True.intro
    | refine stp ?_
    | refine two ?_ ?_
    | refine allc fun c_ => ?_
    | (refine imp fun hc => ?_) <;> try (first | contradiction | (exfalso; omega) | (exfalso; exact absurd (of_dT hc) (by assumption)) | (exfalso; exact of_dF hc (by assumption)))
    | refine all fun v_ => ?_)
  all_goals clear fA_ fH_
  refine jrow (E := 84) (sz := 2) Fo.cells ?_
  refine J_loopV (X := Nat × Sl) (fun y => [(1, .val (.pointer (some ⟨v_, 0, none⟩))), (5, .int fst), (7, .d (boolsD lt)), (9, .val y.2.v), (34, .int N), (35, .int y.1)]) (fun y => [rowE y.2.v 84 2 Fo.cells (B y.1), .cells v_ 29 [.d (varsD t.model.vars), .d (rulesD t.model.rules), .d (termsD t.props), .d (opsD t.formula)]]) (fun y => y.1 ≤ N) (fun y => N - y.1) (0, Sl.nil) (Nat.zero_le _) (VS.take (by rw [hb0]; ((repeat (first | exact Take.nil | ((with_reducible apply Take.cons); (focus ((repeat (first | exact Sel.here | with_reducible apply Sel.there)); done))))); done)) ?_) ?_
  · repeat (first
      | exact Env.le_nil _
      | refine Env.le_cons (AV.le_refl _) ?_
      | refine Env.le_cons (AV.le_int rfl (by first | rfl | omega | (dsimp only; omega))) ?_)
  rintro ⟨i, q⟩ hi
  dsimp only at hi ⊢
  have hbi := hbl i
  by_cases hil : i < N
  · have hT := Truths t.formula lt i
    rw [hin i hil] at hT
    have hyes := hyes i
    have hno := hno i
    obtain ⟨rest, hr⟩ := truths_cons hpos (tAt t.formula lt i)
    rw [hr] at hT
    dsimp only at hT
    cases hb : tAt t.formula lt i 0 with
    | true =>
      rw [hb] at hT
      have hno := hno hb
      all_goals haveI fA_ : FlagA := ⟨⟩
      all_goals haveI fH_ : FlagH := ⟨⟩
      repeat' (first
        | ((with_reducible apply call0); (focus rfl); (focus exact cal_Truths); (focus exact hT); (focus rfl))
        | ((with_reducible apply je_call0); (focus rfl); (focus (decide +kernel)); (focus rfl); (focus exact cal_Truths); (focus exact hT); (focus rfl))
        | ((with_reducible apply (japU1 (f := Fo.cells) (u := ⟨fst, (i : Int)⟩))); (focus rfl); (focus rfl); (focus (with_reducible exact ElC.h)); (focus (intro q_; (repeat (first | with_reducible exact Upd.here | with_reducible apply Upd.there)); done)); (focus rfl); (focus rfl); (focus rfl); (focus rfl); (focus (first | omega | (simp only [List.length_map, List.length_range, List.length_append, List.length_cons, List.length_nil, List.length_take, List.length_drop, List.length_set, List.length_replicate]; omega))); (focus (first | omega | (simp only [List.length_map, List.length_range, List.length_append, List.length_cons, List.length_nil, List.length_take, List.length_drop, List.length_set, List.length_replicate]; omega))))
        | exact True.intro
        | refine stp ?_
        | refine two ?_ ?_
        | refine allc fun c_ => ?_
        | (refine imp fun hc => ?_) <;> try (first | contradiction | (exfalso; omega) | (exfalso; exact absurd (of_dT hc) (by assumption)) | (exfalso; exact of_dF hc (by assumption)))
        | refine all fun v_ => ?_)
      all_goals clear fA_ fH_
      refine ⟨(i + 1, q), by dsimp only; omega, by dsimp only; omega, VS.take (by dsimp only; rw [hno]; ((repeat (first | exact Take.nil | ((with_reducible apply Take.cons); (focus ((repeat (first | exact Sel.here | with_reducible apply Sel.there)); done))))); done)) ?_⟩
      repeat (first
        | exact Env.le_nil _
        | refine Env.le_cons (AV.le_refl _) ?_
        | refine Env.le_cons (AV.le_int rfl (by first | rfl | omega | (dsimp only; omega))) ?_)
    | false =>
      rw [hb] at hT
      have hyes := hyes hb
      all_goals haveI fA_ : FlagA := ⟨⟩
      all_goals haveI fH_ : FlagH := ⟨⟩
      repeat' (first
        | ((with_reducible apply call0); (focus rfl); (focus exact cal_Truths); (focus exact hT); (focus rfl))
        | ((with_reducible apply je_call0); (focus rfl); (focus (decide +kernel)); (focus rfl); (focus exact cal_Truths); (focus exact hT); (focus rfl))
        | ((with_reducible apply (japU1 (f := Fo.cells) (u := ⟨fst, (i : Int)⟩))); (focus rfl); (focus rfl); (focus (with_reducible exact ElC.h)); (focus (intro q_; (repeat (first | with_reducible exact Upd.here | with_reducible apply Upd.there)); done)); (focus rfl); (focus rfl); (focus rfl); (focus rfl); (focus (first | omega | (simp only [List.length_map, List.length_range, List.length_append, List.length_cons, List.length_nil, List.length_take, List.length_drop, List.length_set, List.length_replicate]; omega))); (focus (first | omega | (simp only [List.length_map, List.length_range, List.length_append, List.length_cons, List.length_nil, List.length_take, List.length_drop, List.length_set, List.length_replicate]; omega))))
        | exact True.intro
        | refine stp ?_
        | refine two ?_ ?_
        | refine allc fun c_ => ?_
        | (refine imp fun hc => ?_) <;> try (first | contradiction | (exfalso; omega) | (exfalso; exact absurd (of_dT hc) (by assumption)) | (exfalso; exact of_dF hc (by assumption)))
        | refine all fun v_ => ?_)
      all_goals clear fA_ fH_
      refine ⟨(i + 1, v_), by dsimp only; omega, by dsimp only; omega, VS.take (by dsimp only; rw [hyes]; ((repeat (first | exact Take.nil | ((with_reducible apply Take.cons); (focus ((repeat (first | exact Sel.here | with_reducible apply Sel.there)); done))))); done)) ?_⟩
      repeat (first
        | exact Env.le_nil _
        | refine Env.le_cons (AV.le_refl _) ?_
        | refine Env.le_cons (AV.le_int rfl (by first | rfl | omega | (dsimp only; omega))) ?_)
  obtain rfl : i = N := by omega
  all_goals haveI fA_ : FlagA := ⟨⟩
  all_goals haveI fH_ : FlagH := ⟨⟩
  repeat' (first
    | exact True.intro
    | refine stp ?_
    | refine two ?_ ?_
    | refine allc fun c_ => ?_
    | (refine imp fun hc => ?_) <;> try (first | contradiction | (exfalso; omega) | (exfalso; exact absurd (of_dT hc) (by assumption)) | (exfalso; exact of_dF hc (by assumption)))
    | refine all fun v_ => ?_)
  all_goals clear fA_ fH_
  refine retv (VS.trans (vfreeze (t := 2) (eb := 16) rfl rfl (fun x => rfl) (by omega)) (VS.drop (List.nil_sublist _))) ?_
  ((with_reducible apply rq2); rfl; rfl; rfl)
  exact ret_eq rfl
theorem BeginOf (G : List (Nat × List D)) (t : Tk) : ACr Tryd.prog G 23 [tkA t] (.tup [.d (opsD (beginF t).1), .int (beginF t).2]) := by
  have hP := TaskFault G t
  unfold beginF
  refine AC_ofV (ts := [2, 3]) Tryd.f23.ntmps Tryd.func23 rfl rfl rfl (by simp [Tryd.ntmps23]) fun W I => ?_
  by_cases h1 : taskF t ≠ 0
  · rw [if_pos h1]
    generalize taskF t = e at hP h1
    all_goals haveI fA_ : FlagA := ⟨⟩
    all_goals haveI fH_ : FlagH := ⟨⟩
    repeat' (first
      | ((with_reducible apply call0); (focus rfl); (focus exact cal_TaskFault); (focus exact hP); (focus rfl))
      | ((with_reducible apply je_call0); (focus rfl); (focus (decide +kernel)); (focus rfl); (focus exact cal_TaskFault); (focus exact hP); (focus rfl))
      | exact True.intro
      | refine stp ?_
      | refine two ?_ ?_
      | refine allc fun c_ => ?_
      | (refine imp fun hc => ?_) <;> try (first | contradiction | (exfalso; omega) | (exfalso; exact absurd (of_dT hc) (by assumption)) | (exfalso; exact of_dF hc (by assumption)))
      | refine all fun v_ => ?_)
    all_goals clear fA_ fH_
    refine retv (VS.trans (VS.drop (List.nil_sublist _)) (vnil (t := 2) 2 16 rfl)) ?_
    ((with_reducible apply rq2); rfl; rfl; rfl)
    exact ret_eq rfl
  rw [if_neg h1]
  replace h1 := Decidable.not_not.1 h1
  rw [h1] at hP
  obtain ⟨a1, a2, a3⟩ := taskF_ok h1
  obtain ⟨f1, f2, f3⟩ := first_ok a3
  have gf := good_of a2
  have hpos := gf.pos
  have h60 := gf.h60
  have hF : ACr Tryd.prog G 51 [mdA t.model] (.tup [.int (firstF t.model), .int 0]) := by
    have h := FirstCode G t.model
    rw [f1] at h
    exact h
  have hL := LetterOf G t.model t.props (firstF t.model)
  have hM := manyClaims G t
  rw [lettF_ok h1 f2 f3] at hL
  dsimp only at hL
  obtain ⟨m1, m2⟩ := claims_few t
  have hll := lettF_len t (firstF t.model)
  have hin : ∀ n : Nat, n < claimsF t → truthsOf t.formula (lettF t (firstF t.model)) n = ((List.range t.formula.length).map (tAt t.formula (lettF t (firstF t.model)) n), 0) := fun n hn => truths_ok h1 _ hll (by omega) (by omega)
  have hyes := fun n => beginL_yes (t := t) (n := n)
  have hno := fun n => beginL_no (t := t) (n := n)
  have hbl := beginL_len t
  have hb0 : beginL t 0 = [] := rfl
  generalize beginL t = B at hyes hno hbl hb0 ⊢
  generalize lettF t (firstF t.model) = lt at hL hll hin hyes hno
  generalize firstF t.model = fst at hF hL f2 f3 hyes hno
  generalize claimsF t = N at hM m1 m2 hin ⊢
  all_goals haveI fA_ : FlagA := ⟨⟩
  all_goals haveI fH_ : FlagH := ⟨⟩
  repeat' (first
    | ((with_reducible apply call0); (focus rfl); (focus exact cal_TaskFault); (focus exact hP); (focus rfl))
    | ((with_reducible apply je_call0); (focus rfl); (focus (decide +kernel)); (focus rfl); (focus exact cal_TaskFault); (focus exact hP); (focus rfl))
    | ((with_reducible apply call0); (focus rfl); (focus exact cal_FirstCode); (focus exact hF); (focus rfl))
    | ((with_reducible apply je_call0); (focus rfl); (focus (decide +kernel)); (focus rfl); (focus exact cal_FirstCode); (focus exact hF); (focus rfl))
    | ((with_reducible apply call0); (focus rfl); (focus exact cal_LetterOf); (focus exact hL); (focus rfl))
    | ((with_reducible apply je_call0); (focus rfl); (focus (decide +kernel)); (focus rfl); (focus exact cal_LetterOf); (focus exact hL); (focus rfl))
    | ((with_reducible apply call0); (focus rfl); (focus exact cal_manyClaims); (focus exact hM); (focus rfl))
    | ((with_reducible apply je_call0); (focus rfl); (focus (decide +kernel)); (focus rfl); (focus exact cal_manyClaims); (focus exact hM); (focus rfl))
    | exact True.intro
    | refine stp ?_
    | refine two ?_ ?_
    | refine allc fun c_ => ?_
    | (refine imp fun hc => ?_) <;> try (first | contradiction | (exfalso; omega) | (exfalso; exact absurd (of_dT hc) (by assumption)) | (exfalso; exact of_dF hc (by assumption)))
    | refine all fun v_ => ?_)
  all_goals clear fA_ fH_
  refine jrow (E := 84) (sz := 2) Fo.cells ?_
  refine J_loopV (X := Nat × Sl) (fun y => [(1, .val (.pointer (some ⟨v_, 0, none⟩))), (5, .int fst), (7, .d (boolsD lt)), (9, .int N), (10, .val y.2.v), (11, .int y.1)]) (fun y => [rowE y.2.v 84 2 Fo.cells (B y.1), .cells v_ 29 [.d (varsD t.model.vars), .d (rulesD t.model.rules), .d (termsD t.props), .d (opsD t.formula)]]) (fun y => y.1 ≤ N) (fun y => N - y.1) (0, Sl.nil) (Nat.zero_le _) (VS.take (by rw [hb0]; ((repeat (first | exact Take.nil | ((with_reducible apply Take.cons); (focus ((repeat (first | exact Sel.here | with_reducible apply Sel.there)); done))))); done)) ?_) ?_
  · repeat (first
      | exact Env.le_nil _
      | refine Env.le_cons (AV.le_refl _) ?_
      | refine Env.le_cons (AV.le_int rfl (by first | rfl | omega | (dsimp only; omega))) ?_)
  rintro ⟨i, q⟩ hi
  dsimp only at hi ⊢
  have hbi := hbl i
  by_cases hil : i < N
  · have hT := TruthsOf G t.formula lt i
    rw [hin i hil] at hT
    have hyes := hyes i
    have hno := hno i
    obtain ⟨rest, hr⟩ := truths_cons hpos (tAt t.formula lt i)
    rw [hr] at hT
    dsimp only at hT
    cases hb : tAt t.formula lt i 0 with
    | true =>
      rw [hb] at hT
      have hno := hno hb
      all_goals haveI fA_ : FlagA := ⟨⟩
      all_goals haveI fH_ : FlagH := ⟨⟩
      repeat' (first
        | ((with_reducible apply call0); (focus rfl); (focus exact cal_TruthsOf); (focus exact hT); (focus rfl))
        | ((with_reducible apply je_call0); (focus rfl); (focus (decide +kernel)); (focus rfl); (focus exact cal_TruthsOf); (focus exact hT); (focus rfl))
        | ((with_reducible apply (japU1 (f := Fo.cells) (u := ⟨fst, (i : Int)⟩))); (focus rfl); (focus rfl); (focus (with_reducible exact ElC.h)); (focus (intro q_; (repeat (first | with_reducible exact Upd.here | with_reducible apply Upd.there)); done)); (focus rfl); (focus rfl); (focus rfl); (focus rfl); (focus (first | omega | (simp only [List.length_map, List.length_range, List.length_append, List.length_cons, List.length_nil, List.length_take, List.length_drop, List.length_set, List.length_replicate]; omega))); (focus (first | omega | (simp only [List.length_map, List.length_range, List.length_append, List.length_cons, List.length_nil, List.length_take, List.length_drop, List.length_set, List.length_replicate]; omega))))
        | exact True.intro
        | refine stp ?_
        | refine two ?_ ?_
        | refine allc fun c_ => ?_
        | (refine imp fun hc => ?_) <;> try (first | contradiction | (exfalso; omega) | (exfalso; exact absurd (of_dT hc) (by assumption)) | (exfalso; exact of_dF hc (by assumption)))
        | refine all fun v_ => ?_)
      all_goals clear fA_ fH_
      refine ⟨(i + 1, q), by dsimp only; omega, by dsimp only; omega, VS.take (by dsimp only; rw [hno]; ((repeat (first | exact Take.nil | ((with_reducible apply Take.cons); (focus ((repeat (first | exact Sel.here | with_reducible apply Sel.there)); done))))); done)) ?_⟩
      repeat (first
        | exact Env.le_nil _
        | refine Env.le_cons (AV.le_refl _) ?_
        | refine Env.le_cons (AV.le_int rfl (by first | rfl | omega | (dsimp only; omega))) ?_)
    | false =>
      rw [hb] at hT
      have hyes := hyes hb
      all_goals haveI fA_ : FlagA := ⟨⟩
      all_goals haveI fH_ : FlagH := ⟨⟩
      repeat' (first
        | ((with_reducible apply call0); (focus rfl); (focus exact cal_TruthsOf); (focus exact hT); (focus rfl))
        | ((with_reducible apply je_call0); (focus rfl); (focus (decide +kernel)); (focus rfl); (focus exact cal_TruthsOf); (focus exact hT); (focus rfl))
        | ((with_reducible apply (japU1 (f := Fo.cells) (u := ⟨fst, (i : Int)⟩))); (focus rfl); (focus rfl); (focus (with_reducible exact ElC.h)); (focus (intro q_; (repeat (first | with_reducible exact Upd.here | with_reducible apply Upd.there)); done)); (focus rfl); (focus rfl); (focus rfl); (focus rfl); (focus (first | omega | (simp only [List.length_map, List.length_range, List.length_append, List.length_cons, List.length_nil, List.length_take, List.length_drop, List.length_set, List.length_replicate]; omega))); (focus (first | omega | (simp only [List.length_map, List.length_range, List.length_append, List.length_cons, List.length_nil, List.length_take, List.length_drop, List.length_set, List.length_replicate]; omega))))
        | exact True.intro
        | refine stp ?_
        | refine two ?_ ?_
        | refine allc fun c_ => ?_
        | (refine imp fun hc => ?_) <;> try (first | contradiction | (exfalso; omega) | (exfalso; exact absurd (of_dT hc) (by assumption)) | (exfalso; exact of_dF hc (by assumption)))
        | refine all fun v_ => ?_)
      all_goals clear fA_ fH_
      refine ⟨(i + 1, v_), by dsimp only; omega, by dsimp only; omega, VS.take (by dsimp only; rw [hyes]; ((repeat (first | exact Take.nil | ((with_reducible apply Take.cons); (focus ((repeat (first | exact Sel.here | with_reducible apply Sel.there)); done))))); done)) ?_⟩
      repeat (first
        | exact Env.le_nil _
        | refine Env.le_cons (AV.le_refl _) ?_
        | refine Env.le_cons (AV.le_int rfl (by first | rfl | omega | (dsimp only; omega))) ?_)
  obtain rfl : i = N := by omega
  all_goals haveI fA_ : FlagA := ⟨⟩
  all_goals haveI fH_ : FlagH := ⟨⟩
  repeat' (first
    | exact True.intro
    | refine stp ?_
    | refine two ?_ ?_
    | refine allc fun c_ => ?_
    | (refine imp fun hc => ?_) <;> try (first | contradiction | (exfalso; omega) | (exfalso; exact absurd (of_dT hc) (by assumption)) | (exfalso; exact of_dF hc (by assumption)))
    | refine all fun v_ => ?_)
  all_goals clear fA_ fH_
  refine retv (VS.trans (vfreeze (t := 2) (eb := 16) rfl rfl (fun x => rfl) (by omega)) (VS.drop (List.nil_sublist _))) ?_
  ((with_reducible apply rq2); rfl; rfl; rfl)
  exact ret_eq rfl
end Go.Proofs.YtmamiihpghnmmaaDoor
