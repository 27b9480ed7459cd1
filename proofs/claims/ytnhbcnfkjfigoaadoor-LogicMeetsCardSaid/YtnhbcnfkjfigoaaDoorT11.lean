/- Contracts: logic.Truths. -/
import Derived.Test.YtnhbcnfkjfigoaaDoorT10
namespace Go.Proofs.YtnhbcnfkjfigoaaDoor
open Go Go.Av Go.Sp

theorem bord_bools {h : H} {b n : Nat} {E : TypeId} {out : List Bool} (hm : Ent.cells b E (out.map AV.bool) ∈ h) (hn : out.length = n) (hb : n ≤ 1000000) : BorD h (.val (.slice (some ⟨b, 0, none⟩) n n)) (boolsD out) :=
  bord_row hm (by decide) (bools_flat out) (by simpa using hn) (fun r hr => by obtain ⟨a, _, rfl⟩ := List.mem_map.1 hr; rfl) (by omega) (by simp only [maxLen]; omega)
theorem bord_int' {h : H} {a : Int} {m : Nat} (e : a = m) : BorD h (.int a) (.i .i64 m) := e ▸ bord_int h _
set_option maxHeartbeats 2000000 in
theorem Truths (l : List Fo) (x : List Bool) (c : Int) : ACr Tryd.prog GP 31 [.d (opsD l), .d (boolsD x), .int c] (.tup [.d (boolsD (truthsOf l x c).1), .int (truthsOf l x c).2]) := by
  have hA := Ahead l x.length
  have hE := Ends l
  generalize hes0 : endsOf l = q at hE
  obtain ⟨es, e2⟩ := q
  dsimp only at hE
  generalize he : aheadsOf l x.length = p at hA
  obtain ⟨ps, e⟩ := p
  dsimp only at hA
  refine AC_ofV (ts := [6, 7]) 122 Tryd.func31 rfl rfl rfl (by simp) fun W I => ?_
  refine jfact (t := 0) rfl fun hl0 => ?_
  refine jfact (t := 1) rfl fun hl1 => ?_
  by_cases hc : e ≠ 0
  · repeat' (first
      | ((with_reducible apply call0); (focus rfl); (focus exact cal_Ahead); (focus exact hA); (focus rfl))
      | ((with_reducible apply call0); (focus rfl); (focus exact cal_Ends); (focus exact hE); (focus rfl))
      | ((with_reducible apply jboxT); (focus rfl); (focus rfl); (focus rfl))
      | ((with_reducible apply jalloc1T); (focus (with_reducible first
                                                   | exact el_int
                                                   | exact el_bool
                                                   | exact el_byte
                                                   | exact el_string
                                                   | exact el_Errno
                                                   | exact el_Op
                                                   | exact el_ints
                                                   | exact el_bools
                                                   | exact el_ops
                                                   )); (focus rfl); (focus rfl))
      | ((with_reducible apply jallocN); (focus (with_reducible first
                                                  | exact el_int
                                                  | exact el_bool
                                                  | exact el_byte
                                                  | exact el_string
                                                  | exact el_Errno
                                                  | exact el_Op
                                                  | exact el_ints
                                                  | exact el_bools
                                                  | exact el_ops
                                                  )); (focus rfl))
      | ((with_reducible apply js_all); (focus rfl); (focus rfl); (focus rfl); (focus (with_reducible first
                                                                                        | exact el_int
                                                                                        | exact el_bool
                                                                                        | exact el_byte
                                                                                        | exact el_string
                                                                                        | exact el_Errno
                                                                                        | exact el_Op
                                                                                        | exact el_ints
                                                                                        | exact el_bools
                                                                                        | exact el_ops
                                                                                        )); (focus rfl); (focus rfl))
      | ((with_reducible apply js_head); (focus rfl); (focus rfl); (focus rfl); (focus (with_reducible first
                                                                                         | exact el_int
                                                                                         | exact el_bool
                                                                                         | exact el_byte
                                                                                         | exact el_string
                                                                                         | exact el_Errno
                                                                                         | exact el_Op
                                                                                         | exact el_ints
                                                                                         | exact el_bools
                                                                                         | exact el_ops
                                                                                         )))
      | ((with_reducible apply jmk_bool); (focus rfl); (focus rfl); (focus (with_reducible first
                                                                             | exact el_int
                                                                             | exact el_bool
                                                                             | exact el_byte
                                                                             | exact el_string
                                                                             | exact el_Errno
                                                                             | exact el_Op
                                                                             | exact el_ints
                                                                             | exact el_bools
                                                                             | exact el_ops
                                                                             )); (focus omega); (focus omega); (focus rfl))
      | ((with_reducible apply jmk_int); (focus rfl); (focus rfl); (focus (with_reducible first
                                                                            | exact el_int
                                                                            | exact el_bool
                                                                            | exact el_byte
                                                                            | exact el_string
                                                                            | exact el_Errno
                                                                            | exact el_Op
                                                                            | exact el_ints
                                                                            | exact el_bools
                                                                            | exact el_ops
                                                                            )); (focus omega); (focus omega); (focus rfl))
      | ((with_reducible apply js_map0); (focus rfl); (focus rfl); (focus rfl); (focus (with_reducible first
                                                                                         | exact el_int
                                                                                         | exact el_bool
                                                                                         | exact el_byte
                                                                                         | exact el_string
                                                                                         | exact el_Errno
                                                                                         | exact el_Op
                                                                                         | exact el_ints
                                                                                         | exact el_bools
                                                                                         | exact el_ops
                                                                                         )); (focus (first | omega | (simp only [List.length_map, List.length_range, List.length_append, List.length_cons, List.length_nil]; omega) | (simp only [List.length_map, List.length_range, List.length_append, List.length_cons, List.length_nil, List.length_take, List.length_drop]; omega))))
      | ((with_reducible apply js_map1); (focus rfl); (focus rfl); (focus rfl); (focus (with_reducible first
                                                                                         | exact el_int
                                                                                         | exact el_bool
                                                                                         | exact el_byte
                                                                                         | exact el_string
                                                                                         | exact el_Errno
                                                                                         | exact el_Op
                                                                                         | exact el_ints
                                                                                         | exact el_bools
                                                                                         | exact el_ops
                                                                                         )); (focus (first | omega | (simp only [List.length_map, List.length_range, List.length_append, List.length_cons, List.length_nil]; omega) | (simp only [List.length_map, List.length_range, List.length_append, List.length_cons, List.length_nil, List.length_take, List.length_drop]; omega))))
      | ((with_reducible apply js_map2); (focus rfl); (focus rfl); (focus rfl); (focus (with_reducible first
                                                                                         | exact el_int
                                                                                         | exact el_bool
                                                                                         | exact el_byte
                                                                                         | exact el_string
                                                                                         | exact el_Errno
                                                                                         | exact el_Op
                                                                                         | exact el_ints
                                                                                         | exact el_bools
                                                                                         | exact el_ops
                                                                                         )); (focus (first | omega | (simp only [List.length_map, List.length_range, List.length_append, List.length_cons, List.length_nil]; omega) | (simp only [List.length_map, List.length_range, List.length_append, List.length_cons, List.length_nil, List.length_take, List.length_drop]; omega))))
      | ((with_reducible apply js_map3); (focus rfl); (focus rfl); (focus rfl); (focus (with_reducible first
                                                                                         | exact el_int
                                                                                         | exact el_bool
                                                                                         | exact el_byte
                                                                                         | exact el_string
                                                                                         | exact el_Errno
                                                                                         | exact el_Op
                                                                                         | exact el_ints
                                                                                         | exact el_bools
                                                                                         | exact el_ops
                                                                                         )); (focus (first | omega | (simp only [List.length_map, List.length_range, List.length_append, List.length_cons, List.length_nil]; omega) | (simp only [List.length_map, List.length_range, List.length_append, List.length_cons, List.length_nil, List.length_take, List.length_drop]; omega))))
      | ((with_reducible apply js_one1); (focus rfl); (focus rfl); (focus rfl); (focus (with_reducible first
                                                                                         | exact el_int
                                                                                         | exact el_bool
                                                                                         | exact el_byte
                                                                                         | exact el_string
                                                                                         | exact el_Errno
                                                                                         | exact el_Op
                                                                                         | exact el_ints
                                                                                         | exact el_bools
                                                                                         | exact el_ops
                                                                                         )))
      | ((with_reducible apply js_one2); (focus rfl); (focus rfl); (focus rfl); (focus (with_reducible first
                                                                                         | exact el_int
                                                                                         | exact el_bool
                                                                                         | exact el_byte
                                                                                         | exact el_string
                                                                                         | exact el_Errno
                                                                                         | exact el_Op
                                                                                         | exact el_ints
                                                                                         | exact el_bools
                                                                                         | exact el_ops
                                                                                         )))
      | ((with_reducible apply js_one3); (focus rfl); (focus rfl); (focus rfl); (focus (with_reducible first
                                                                                         | exact el_int
                                                                                         | exact el_bool
                                                                                         | exact el_byte
                                                                                         | exact el_string
                                                                                         | exact el_Errno
                                                                                         | exact el_Op
                                                                                         | exact el_ints
                                                                                         | exact el_bools
                                                                                         | exact el_ops
                                                                                         )))
      | ((with_reducible apply japp1); (focus rfl); (focus rfl); (focus rfl); (focus (with_reducible first
                                                                                       | exact el_int
                                                                                       | exact el_bool
                                                                                       | exact el_byte
                                                                                       | exact el_string
                                                                                       | exact el_Errno
                                                                                       | exact el_Op
                                                                                       | exact el_ints
                                                                                       | exact el_bools
                                                                                       | exact el_ops
                                                                                       )); (focus rfl); (focus rfl); (focus rfl); (focus (first | omega | (simp only [List.length_map, List.length_range, List.length_append, List.length_cons, List.length_nil]; omega) | (simp only [List.length_map, List.length_range, List.length_append, List.length_cons, List.length_nil, List.length_take, List.length_drop]; omega))); (focus (first | omega | (simp only [List.length_map, List.length_range, List.length_append, List.length_cons, List.length_nil]; omega) | (simp only [List.length_map, List.length_range, List.length_append, List.length_cons, List.length_nil, List.length_take, List.length_drop]; omega))))
      | ((with_reducible apply jqbor); (focus rfl); (focus rfl); (focus exact cal_Truths1); (focus exact hT1); (focus exact ⟨bor_ptr (List.mem_cons_of_mem _ List.mem_cons_self) ⟨bord_bools (List.mem_cons_of_mem _ (List.mem_cons_of_mem _ List.mem_cons_self)) d.len (by omega), trivial⟩, bor_ptr List.mem_cons_self ⟨bord_int' rfl, trivial⟩, trivial⟩); (focus rfl))
      | ((with_reducible apply jqbor); (focus rfl); (focus rfl); (focus exact cal_Truths2); (focus exact hT2); (focus exact ⟨bor_ptr (List.mem_cons_of_mem _ List.mem_cons_self) ⟨bord_bools (List.mem_cons_of_mem _ (List.mem_cons_of_mem _ List.mem_cons_self)) d.len (by omega), trivial⟩, bor_ptr (List.mem_cons_of_mem _ (List.mem_cons_of_mem _ (List.mem_cons_of_mem _ List.mem_cons_self))) ⟨bord_d _ _, trivial⟩, bor_ptr List.mem_cons_self ⟨bord_int' rfl, trivial⟩, trivial⟩); (focus rfl))
      | refine stp ?_
      | refine two ?_ ?_
      | (refine imp fun hc => ?_) <;> try (first | contradiction | (exfalso; omega))
      | refine all fun v_ => ?_)
    refine retv (vnil (t := 6) 1 1 rfl) ?_
    ((with_reducible apply rq2); rfl; rfl; rfl)
    refine ret_eq ?_
    rw [truthsOf, he, if_pos hc]; rfl
  have e0 : e = 0 := by simpa using hc
  subst e0
  obtain ⟨hF, hps⟩ := aheadsOf_ok he
  have g := good_of hF
  have h60 := g.h60
  have hpl : ps.length ≤ 6 := by rw [hps, aheads_len]; exact g.ah
  have hp6 := pow6 hpl
  have hs : truthsOf l x c = if c < 0 ∨ 2 ^ ps.length ≤ c then ([], 2) else ((List.range l.length).map (tAt l x c), 0) := by
    rw [truthsOf, he]; rfl
  have hin : inI64 (1 * 2 ^ ((ps.length : Int)).toNat) := by
    rw [Int.toNat_natCast]; unfold inI64; omega
  have hin' : (1 : Int) * 2 ^ ((ps.length : Int)).toNat = 2 ^ ps.length := by
    rw [Int.toNat_natCast, Int.one_mul]
  by_cases hcr : c < 0 ∨ 2 ^ ps.length ≤ c
  · repeat' (first
      | ((with_reducible apply call0); (focus rfl); (focus exact cal_Ahead); (focus exact hA); (focus rfl))
      | ((with_reducible apply call0); (focus rfl); (focus exact cal_Ends); (focus exact hE); (focus rfl))
      | ((with_reducible apply jboxT); (focus rfl); (focus rfl); (focus rfl))
      | ((with_reducible apply jalloc1T); (focus (with_reducible first
                                                   | exact el_int
                                                   | exact el_bool
                                                   | exact el_byte
                                                   | exact el_string
                                                   | exact el_Errno
                                                   | exact el_Op
                                                   | exact el_ints
                                                   | exact el_bools
                                                   | exact el_ops
                                                   )); (focus rfl); (focus rfl))
      | ((with_reducible apply jallocN); (focus (with_reducible first
                                                  | exact el_int
                                                  | exact el_bool
                                                  | exact el_byte
                                                  | exact el_string
                                                  | exact el_Errno
                                                  | exact el_Op
                                                  | exact el_ints
                                                  | exact el_bools
                                                  | exact el_ops
                                                  )); (focus rfl))
      | ((with_reducible apply js_all); (focus rfl); (focus rfl); (focus rfl); (focus (with_reducible first
                                                                                        | exact el_int
                                                                                        | exact el_bool
                                                                                        | exact el_byte
                                                                                        | exact el_string
                                                                                        | exact el_Errno
                                                                                        | exact el_Op
                                                                                        | exact el_ints
                                                                                        | exact el_bools
                                                                                        | exact el_ops
                                                                                        )); (focus rfl); (focus rfl))
      | ((with_reducible apply js_head); (focus rfl); (focus rfl); (focus rfl); (focus (with_reducible first
                                                                                         | exact el_int
                                                                                         | exact el_bool
                                                                                         | exact el_byte
                                                                                         | exact el_string
                                                                                         | exact el_Errno
                                                                                         | exact el_Op
                                                                                         | exact el_ints
                                                                                         | exact el_bools
                                                                                         | exact el_ops
                                                                                         )))
      | ((with_reducible apply jmk_bool); (focus rfl); (focus rfl); (focus (with_reducible first
                                                                             | exact el_int
                                                                             | exact el_bool
                                                                             | exact el_byte
                                                                             | exact el_string
                                                                             | exact el_Errno
                                                                             | exact el_Op
                                                                             | exact el_ints
                                                                             | exact el_bools
                                                                             | exact el_ops
                                                                             )); (focus omega); (focus omega); (focus rfl))
      | ((with_reducible apply jmk_int); (focus rfl); (focus rfl); (focus (with_reducible first
                                                                            | exact el_int
                                                                            | exact el_bool
                                                                            | exact el_byte
                                                                            | exact el_string
                                                                            | exact el_Errno
                                                                            | exact el_Op
                                                                            | exact el_ints
                                                                            | exact el_bools
                                                                            | exact el_ops
                                                                            )); (focus omega); (focus omega); (focus rfl))
      | ((with_reducible apply js_map0); (focus rfl); (focus rfl); (focus rfl); (focus (with_reducible first
                                                                                         | exact el_int
                                                                                         | exact el_bool
                                                                                         | exact el_byte
                                                                                         | exact el_string
                                                                                         | exact el_Errno
                                                                                         | exact el_Op
                                                                                         | exact el_ints
                                                                                         | exact el_bools
                                                                                         | exact el_ops
                                                                                         )); (focus (first | omega | (simp only [List.length_map, List.length_range, List.length_append, List.length_cons, List.length_nil]; omega) | (simp only [List.length_map, List.length_range, List.length_append, List.length_cons, List.length_nil, List.length_take, List.length_drop]; omega))))
      | ((with_reducible apply js_map1); (focus rfl); (focus rfl); (focus rfl); (focus (with_reducible first
                                                                                         | exact el_int
                                                                                         | exact el_bool
                                                                                         | exact el_byte
                                                                                         | exact el_string
                                                                                         | exact el_Errno
                                                                                         | exact el_Op
                                                                                         | exact el_ints
                                                                                         | exact el_bools
                                                                                         | exact el_ops
                                                                                         )); (focus (first | omega | (simp only [List.length_map, List.length_range, List.length_append, List.length_cons, List.length_nil]; omega) | (simp only [List.length_map, List.length_range, List.length_append, List.length_cons, List.length_nil, List.length_take, List.length_drop]; omega))))
      | ((with_reducible apply js_map2); (focus rfl); (focus rfl); (focus rfl); (focus (with_reducible first
                                                                                         | exact el_int
                                                                                         | exact el_bool
                                                                                         | exact el_byte
                                                                                         | exact el_string
                                                                                         | exact el_Errno
                                                                                         | exact el_Op
                                                                                         | exact el_ints
                                                                                         | exact el_bools
                                                                                         | exact el_ops
                                                                                         )); (focus (first | omega | (simp only [List.length_map, List.length_range, List.length_append, List.length_cons, List.length_nil]; omega) | (simp only [List.length_map, List.length_range, List.length_append, List.length_cons, List.length_nil, List.length_take, List.length_drop]; omega))))
      | ((with_reducible apply js_map3); (focus rfl); (focus rfl); (focus rfl); (focus (with_reducible first
                                                                                         | exact el_int
                                                                                         | exact el_bool
                                                                                         | exact el_byte
                                                                                         | exact el_string
                                                                                         | exact el_Errno
                                                                                         | exact el_Op
                                                                                         | exact el_ints
                                                                                         | exact el_bools
                                                                                         | exact el_ops
                                                                                         )); (focus (first | omega | (simp only [List.length_map, List.length_range, List.length_append, List.length_cons, List.length_nil]; omega) | (simp only [List.length_map, List.length_range, List.length_append, List.length_cons, List.length_nil, List.length_take, List.length_drop]; omega))))
      | ((with_reducible apply js_one1); (focus rfl); (focus rfl); (focus rfl); (focus (with_reducible first
                                                                                         | exact el_int
                                                                                         | exact el_bool
                                                                                         | exact el_byte
                                                                                         | exact el_string
                                                                                         | exact el_Errno
                                                                                         | exact el_Op
                                                                                         | exact el_ints
                                                                                         | exact el_bools
                                                                                         | exact el_ops
                                                                                         )))
      | ((with_reducible apply js_one2); (focus rfl); (focus rfl); (focus rfl); (focus (with_reducible first
                                                                                         | exact el_int
                                                                                         | exact el_bool
                                                                                         | exact el_byte
                                                                                         | exact el_string
                                                                                         | exact el_Errno
                                                                                         | exact el_Op
                                                                                         | exact el_ints
                                                                                         | exact el_bools
                                                                                         | exact el_ops
                                                                                         )))
      | ((with_reducible apply js_one3); (focus rfl); (focus rfl); (focus rfl); (focus (with_reducible first
                                                                                         | exact el_int
                                                                                         | exact el_bool
                                                                                         | exact el_byte
                                                                                         | exact el_string
                                                                                         | exact el_Errno
                                                                                         | exact el_Op
                                                                                         | exact el_ints
                                                                                         | exact el_bools
                                                                                         | exact el_ops
                                                                                         )))
      | ((with_reducible apply japp1); (focus rfl); (focus rfl); (focus rfl); (focus (with_reducible first
                                                                                       | exact el_int
                                                                                       | exact el_bool
                                                                                       | exact el_byte
                                                                                       | exact el_string
                                                                                       | exact el_Errno
                                                                                       | exact el_Op
                                                                                       | exact el_ints
                                                                                       | exact el_bools
                                                                                       | exact el_ops
                                                                                       )); (focus rfl); (focus rfl); (focus rfl); (focus (first | omega | (simp only [List.length_map, List.length_range, List.length_append, List.length_cons, List.length_nil]; omega) | (simp only [List.length_map, List.length_range, List.length_append, List.length_cons, List.length_nil, List.length_take, List.length_drop]; omega))); (focus (first | omega | (simp only [List.length_map, List.length_range, List.length_append, List.length_cons, List.length_nil]; omega) | (simp only [List.length_map, List.length_range, List.length_append, List.length_cons, List.length_nil, List.length_take, List.length_drop]; omega))))
      | ((with_reducible apply jqbor); (focus rfl); (focus rfl); (focus exact cal_Truths1); (focus exact hT1); (focus exact ⟨bor_ptr (List.mem_cons_of_mem _ List.mem_cons_self) ⟨bord_bools (List.mem_cons_of_mem _ (List.mem_cons_of_mem _ List.mem_cons_self)) d.len (by omega), trivial⟩, bor_ptr List.mem_cons_self ⟨bord_int' rfl, trivial⟩, trivial⟩); (focus rfl))
      | ((with_reducible apply jqbor); (focus rfl); (focus rfl); (focus exact cal_Truths2); (focus exact hT2); (focus exact ⟨bor_ptr (List.mem_cons_of_mem _ List.mem_cons_self) ⟨bord_bools (List.mem_cons_of_mem _ (List.mem_cons_of_mem _ List.mem_cons_self)) d.len (by omega), trivial⟩, bor_ptr (List.mem_cons_of_mem _ (List.mem_cons_of_mem _ (List.mem_cons_of_mem _ List.mem_cons_self))) ⟨bord_d _ _, trivial⟩, bor_ptr List.mem_cons_self ⟨bord_int' rfl, trivial⟩, trivial⟩); (focus rfl))
      | refine stp ?_
      | refine two ?_ ?_
      | (refine imp fun hc => ?_) <;> try (first | contradiction | (exfalso; omega))
      | refine all fun v_ => ?_)
    all_goals
      refine retv (vnil (t := 6) 1 1 rfl) ?_
      ((with_reducible apply rq2); rfl; rfl; rfl)
      refine ret_eq ?_
      rw [hs, if_pos hcr]; rfl
  have hc0 : 0 ≤ c := by omega
  have hT1 := True.intro
  have hT2 := True.intro
  repeat' (first
    | ((with_reducible apply call0); (focus rfl); (focus exact cal_Ahead); (focus exact hA); (focus rfl))
    | ((with_reducible apply call0); (focus rfl); (focus exact cal_Ends); (focus exact hE); (focus rfl))
    | ((with_reducible apply jboxT); (focus rfl); (focus rfl); (focus rfl))
    | ((with_reducible apply jalloc1T); (focus (with_reducible first
                                                 | exact el_int
                                                 | exact el_bool
                                                 | exact el_byte
                                                 | exact el_string
                                                 | exact el_Errno
                                                 | exact el_Op
                                                 | exact el_ints
                                                 | exact el_bools
                                                 | exact el_ops
                                                 )); (focus rfl); (focus rfl))
    | ((with_reducible apply jallocN); (focus (with_reducible first
                                                | exact el_int
                                                | exact el_bool
                                                | exact el_byte
                                                | exact el_string
                                                | exact el_Errno
                                                | exact el_Op
                                                | exact el_ints
                                                | exact el_bools
                                                | exact el_ops
                                                )); (focus rfl))
    | ((with_reducible apply js_all); (focus rfl); (focus rfl); (focus rfl); (focus (with_reducible first
                                                                                      | exact el_int
                                                                                      | exact el_bool
                                                                                      | exact el_byte
                                                                                      | exact el_string
                                                                                      | exact el_Errno
                                                                                      | exact el_Op
                                                                                      | exact el_ints
                                                                                      | exact el_bools
                                                                                      | exact el_ops
                                                                                      )); (focus rfl); (focus rfl))
    | ((with_reducible apply js_head); (focus rfl); (focus rfl); (focus rfl); (focus (with_reducible first
                                                                                       | exact el_int
                                                                                       | exact el_bool
                                                                                       | exact el_byte
                                                                                       | exact el_string
                                                                                       | exact el_Errno
                                                                                       | exact el_Op
                                                                                       | exact el_ints
                                                                                       | exact el_bools
                                                                                       | exact el_ops
                                                                                       )))
    | ((with_reducible apply jmk_bool); (focus rfl); (focus rfl); (focus (with_reducible first
                                                                           | exact el_int
                                                                           | exact el_bool
                                                                           | exact el_byte
                                                                           | exact el_string
                                                                           | exact el_Errno
                                                                           | exact el_Op
                                                                           | exact el_ints
                                                                           | exact el_bools
                                                                           | exact el_ops
                                                                           )); (focus omega); (focus omega); (focus rfl))
    | ((with_reducible apply jmk_int); (focus rfl); (focus rfl); (focus (with_reducible first
                                                                          | exact el_int
                                                                          | exact el_bool
                                                                          | exact el_byte
                                                                          | exact el_string
                                                                          | exact el_Errno
                                                                          | exact el_Op
                                                                          | exact el_ints
                                                                          | exact el_bools
                                                                          | exact el_ops
                                                                          )); (focus omega); (focus omega); (focus rfl))
    | ((with_reducible apply js_map0); (focus rfl); (focus rfl); (focus rfl); (focus (with_reducible first
                                                                                       | exact el_int
                                                                                       | exact el_bool
                                                                                       | exact el_byte
                                                                                       | exact el_string
                                                                                       | exact el_Errno
                                                                                       | exact el_Op
                                                                                       | exact el_ints
                                                                                       | exact el_bools
                                                                                       | exact el_ops
                                                                                       )); (focus (first | omega | (simp only [List.length_map, List.length_range, List.length_append, List.length_cons, List.length_nil]; omega) | (simp only [List.length_map, List.length_range, List.length_append, List.length_cons, List.length_nil, List.length_take, List.length_drop]; omega))))
    | ((with_reducible apply js_map1); (focus rfl); (focus rfl); (focus rfl); (focus (with_reducible first
                                                                                       | exact el_int
                                                                                       | exact el_bool
                                                                                       | exact el_byte
                                                                                       | exact el_string
                                                                                       | exact el_Errno
                                                                                       | exact el_Op
                                                                                       | exact el_ints
                                                                                       | exact el_bools
                                                                                       | exact el_ops
                                                                                       )); (focus (first | omega | (simp only [List.length_map, List.length_range, List.length_append, List.length_cons, List.length_nil]; omega) | (simp only [List.length_map, List.length_range, List.length_append, List.length_cons, List.length_nil, List.length_take, List.length_drop]; omega))))
    | ((with_reducible apply js_map2); (focus rfl); (focus rfl); (focus rfl); (focus (with_reducible first
                                                                                       | exact el_int
                                                                                       | exact el_bool
                                                                                       | exact el_byte
                                                                                       | exact el_string
                                                                                       | exact el_Errno
                                                                                       | exact el_Op
                                                                                       | exact el_ints
                                                                                       | exact el_bools
                                                                                       | exact el_ops
                                                                                       )); (focus (first | omega | (simp only [List.length_map, List.length_range, List.length_append, List.length_cons, List.length_nil]; omega) | (simp only [List.length_map, List.length_range, List.length_append, List.length_cons, List.length_nil, List.length_take, List.length_drop]; omega))))
    | ((with_reducible apply js_map3); (focus rfl); (focus rfl); (focus rfl); (focus (with_reducible first
                                                                                       | exact el_int
                                                                                       | exact el_bool
                                                                                       | exact el_byte
                                                                                       | exact el_string
                                                                                       | exact el_Errno
                                                                                       | exact el_Op
                                                                                       | exact el_ints
                                                                                       | exact el_bools
                                                                                       | exact el_ops
                                                                                       )); (focus (first | omega | (simp only [List.length_map, List.length_range, List.length_append, List.length_cons, List.length_nil]; omega) | (simp only [List.length_map, List.length_range, List.length_append, List.length_cons, List.length_nil, List.length_take, List.length_drop]; omega))))
    | ((with_reducible apply js_one1); (focus rfl); (focus rfl); (focus rfl); (focus (with_reducible first
                                                                                       | exact el_int
                                                                                       | exact el_bool
                                                                                       | exact el_byte
                                                                                       | exact el_string
                                                                                       | exact el_Errno
                                                                                       | exact el_Op
                                                                                       | exact el_ints
                                                                                       | exact el_bools
                                                                                       | exact el_ops
                                                                                       )))
    | ((with_reducible apply js_one2); (focus rfl); (focus rfl); (focus rfl); (focus (with_reducible first
                                                                                       | exact el_int
                                                                                       | exact el_bool
                                                                                       | exact el_byte
                                                                                       | exact el_string
                                                                                       | exact el_Errno
                                                                                       | exact el_Op
                                                                                       | exact el_ints
                                                                                       | exact el_bools
                                                                                       | exact el_ops
                                                                                       )))
    | ((with_reducible apply js_one3); (focus rfl); (focus rfl); (focus rfl); (focus (with_reducible first
                                                                                       | exact el_int
                                                                                       | exact el_bool
                                                                                       | exact el_byte
                                                                                       | exact el_string
                                                                                       | exact el_Errno
                                                                                       | exact el_Op
                                                                                       | exact el_ints
                                                                                       | exact el_bools
                                                                                       | exact el_ops
                                                                                       )))
    | ((with_reducible apply japp1); (focus rfl); (focus rfl); (focus rfl); (focus (with_reducible first
                                                                                     | exact el_int
                                                                                     | exact el_bool
                                                                                     | exact el_byte
                                                                                     | exact el_string
                                                                                     | exact el_Errno
                                                                                     | exact el_Op
                                                                                     | exact el_ints
                                                                                     | exact el_bools
                                                                                     | exact el_ops
                                                                                     )); (focus rfl); (focus rfl); (focus rfl); (focus (first | omega | (simp only [List.length_map, List.length_range, List.length_append, List.length_cons, List.length_nil]; omega) | (simp only [List.length_map, List.length_range, List.length_append, List.length_cons, List.length_nil, List.length_take, List.length_drop]; omega))); (focus (first | omega | (simp only [List.length_map, List.length_range, List.length_append, List.length_cons, List.length_nil]; omega) | (simp only [List.length_map, List.length_range, List.length_append, List.length_cons, List.length_nil, List.length_take, List.length_drop]; omega))))
    | ((with_reducible apply jqbor); (focus rfl); (focus rfl); (focus exact cal_Truths1); (focus exact hT1); (focus exact ⟨bor_ptr (List.mem_cons_of_mem _ List.mem_cons_self) ⟨bord_bools (List.mem_cons_of_mem _ (List.mem_cons_of_mem _ List.mem_cons_self)) d.len (by omega), trivial⟩, bor_ptr List.mem_cons_self ⟨bord_int' rfl, trivial⟩, trivial⟩); (focus rfl))
    | ((with_reducible apply jqbor); (focus rfl); (focus rfl); (focus exact cal_Truths2); (focus exact hT2); (focus exact ⟨bor_ptr (List.mem_cons_of_mem _ List.mem_cons_self) ⟨bord_bools (List.mem_cons_of_mem _ (List.mem_cons_of_mem _ List.mem_cons_self)) d.len (by omega), trivial⟩, bor_ptr (List.mem_cons_of_mem _ (List.mem_cons_of_mem _ (List.mem_cons_of_mem _ List.mem_cons_self))) ⟨bord_d _ _, trivial⟩, bor_ptr List.mem_cons_self ⟨bord_int' rfl, trivial⟩, trivial⟩); (focus rfl))
    | refine stp ?_
    | refine two ?_ ?_
    | (refine imp fun hc => ?_) <;> try (first | contradiction | (exfalso; omega))
    | refine all fun v_ => ?_)
  rename_i b1 b' b2
  clear hT1 hT2
  have he2 : e2 = 0 := by have := g.ends; rw [hes0] at this; exact this
  subst he2
  obtain ⟨_, _, _, hlen, hes⟩ := endsOf_ok hes0
  refine J_loopV (X := Nat × List Bool × Nat) (fun y => [(0, .d (opsD l)), (1, .d (boolsD x)), (2, .int c), (10, .val (.pointer (some ⟨b1, 0, none⟩))), (12, .val (.pointer (some ⟨b2, 0, none⟩))), (13, .int (rank l y.1 : Nat)), (14, .val (.pointer (some ⟨y.2.2, 0, none⟩)))])
    (fun y => [.cells y.2.2 3 [.int ((y.1 : Int) - 1)], .cells b2 42 [.val (.slice (some ⟨b', 0, none⟩) l.length l.length)], .cells b' 4 (y.2.1.map AV.bool), .cells b1 28 [.d (intsD es)]])
    (fun y => y.1 ≤ l.length ∧ TDone l x c y.1 y.2.1) (fun y => y.1) (l.length, List.replicate l.length false, v_) ⟨Nat.le_refl _, TDone.start l x c⟩ ?_ ?_
  · refine VS.of_le ?_
    have := aheads_len (l := l)
    rw [← hps] at this
    repeat (first
      | exact Env.le_nil _
      | refine Env.le_cons (AV.le_refl _) ?_
      | refine Env.le_cons (AV.le_int rfl (by first | rfl | omega | (dsimp only; omega))) ?_)
  rintro ⟨i, out, b3⟩ ⟨k1, d⟩
  dsimp only at k1 d ⊢
  have ol := d.len
  cases i with
  | zero =>
    have hT1 := True.intro
    have hT2 := True.intro
    repeat' (first
      | ((with_reducible apply call0); (focus rfl); (focus exact cal_Ahead); (focus exact hA); (focus rfl))
      | ((with_reducible apply call0); (focus rfl); (focus exact cal_Ends); (focus exact hE); (focus rfl))
      | ((with_reducible apply jboxT); (focus rfl); (focus rfl); (focus rfl))
      | ((with_reducible apply jalloc1T); (focus (with_reducible first
                                                   | exact el_int
                                                   | exact el_bool
                                                   | exact el_byte
                                                   | exact el_string
                                                   | exact el_Errno
                                                   | exact el_Op
                                                   | exact el_ints
                                                   | exact el_bools
                                                   | exact el_ops
                                                   )); (focus rfl); (focus rfl))
      | ((with_reducible apply jallocN); (focus (with_reducible first
                                                  | exact el_int
                                                  | exact el_bool
                                                  | exact el_byte
                                                  | exact el_string
                                                  | exact el_Errno
                                                  | exact el_Op
                                                  | exact el_ints
                                                  | exact el_bools
                                                  | exact el_ops
                                                  )); (focus rfl))
      | ((with_reducible apply js_all); (focus rfl); (focus rfl); (focus rfl); (focus (with_reducible first
                                                                                        | exact el_int
                                                                                        | exact el_bool
                                                                                        | exact el_byte
                                                                                        | exact el_string
                                                                                        | exact el_Errno
                                                                                        | exact el_Op
                                                                                        | exact el_ints
                                                                                        | exact el_bools
                                                                                        | exact el_ops
                                                                                        )); (focus rfl); (focus rfl))
      | ((with_reducible apply js_head); (focus rfl); (focus rfl); (focus rfl); (focus (with_reducible first
                                                                                         | exact el_int
                                                                                         | exact el_bool
                                                                                         | exact el_byte
                                                                                         | exact el_string
                                                                                         | exact el_Errno
                                                                                         | exact el_Op
                                                                                         | exact el_ints
                                                                                         | exact el_bools
                                                                                         | exact el_ops
                                                                                         )))
      | ((with_reducible apply jmk_bool); (focus rfl); (focus rfl); (focus (with_reducible first
                                                                             | exact el_int
                                                                             | exact el_bool
                                                                             | exact el_byte
                                                                             | exact el_string
                                                                             | exact el_Errno
                                                                             | exact el_Op
                                                                             | exact el_ints
                                                                             | exact el_bools
                                                                             | exact el_ops
                                                                             )); (focus omega); (focus omega); (focus rfl))
      | ((with_reducible apply jmk_int); (focus rfl); (focus rfl); (focus (with_reducible first
                                                                            | exact el_int
                                                                            | exact el_bool
                                                                            | exact el_byte
                                                                            | exact el_string
                                                                            | exact el_Errno
                                                                            | exact el_Op
                                                                            | exact el_ints
                                                                            | exact el_bools
                                                                            | exact el_ops
                                                                            )); (focus omega); (focus omega); (focus rfl))
      | ((with_reducible apply js_map0); (focus rfl); (focus rfl); (focus rfl); (focus (with_reducible first
                                                                                         | exact el_int
                                                                                         | exact el_bool
                                                                                         | exact el_byte
                                                                                         | exact el_string
                                                                                         | exact el_Errno
                                                                                         | exact el_Op
                                                                                         | exact el_ints
                                                                                         | exact el_bools
                                                                                         | exact el_ops
                                                                                         )); (focus (first | omega | (simp only [List.length_map, List.length_range, List.length_append, List.length_cons, List.length_nil]; omega) | (simp only [List.length_map, List.length_range, List.length_append, List.length_cons, List.length_nil, List.length_take, List.length_drop]; omega))))
      | ((with_reducible apply js_map1); (focus rfl); (focus rfl); (focus rfl); (focus (with_reducible first
                                                                                         | exact el_int
                                                                                         | exact el_bool
                                                                                         | exact el_byte
                                                                                         | exact el_string
                                                                                         | exact el_Errno
                                                                                         | exact el_Op
                                                                                         | exact el_ints
                                                                                         | exact el_bools
                                                                                         | exact el_ops
                                                                                         )); (focus (first | omega | (simp only [List.length_map, List.length_range, List.length_append, List.length_cons, List.length_nil]; omega) | (simp only [List.length_map, List.length_range, List.length_append, List.length_cons, List.length_nil, List.length_take, List.length_drop]; omega))))
      | ((with_reducible apply js_map2); (focus rfl); (focus rfl); (focus rfl); (focus (with_reducible first
                                                                                         | exact el_int
                                                                                         | exact el_bool
                                                                                         | exact el_byte
                                                                                         | exact el_string
                                                                                         | exact el_Errno
                                                                                         | exact el_Op
                                                                                         | exact el_ints
                                                                                         | exact el_bools
                                                                                         | exact el_ops
                                                                                         )); (focus (first | omega | (simp only [List.length_map, List.length_range, List.length_append, List.length_cons, List.length_nil]; omega) | (simp only [List.length_map, List.length_range, List.length_append, List.length_cons, List.length_nil, List.length_take, List.length_drop]; omega))))
      | ((with_reducible apply js_map3); (focus rfl); (focus rfl); (focus rfl); (focus (with_reducible first
                                                                                         | exact el_int
                                                                                         | exact el_bool
                                                                                         | exact el_byte
                                                                                         | exact el_string
                                                                                         | exact el_Errno
                                                                                         | exact el_Op
                                                                                         | exact el_ints
                                                                                         | exact el_bools
                                                                                         | exact el_ops
                                                                                         )); (focus (first | omega | (simp only [List.length_map, List.length_range, List.length_append, List.length_cons, List.length_nil]; omega) | (simp only [List.length_map, List.length_range, List.length_append, List.length_cons, List.length_nil, List.length_take, List.length_drop]; omega))))
      | ((with_reducible apply js_one1); (focus rfl); (focus rfl); (focus rfl); (focus (with_reducible first
                                                                                         | exact el_int
                                                                                         | exact el_bool
                                                                                         | exact el_byte
                                                                                         | exact el_string
                                                                                         | exact el_Errno
                                                                                         | exact el_Op
                                                                                         | exact el_ints
                                                                                         | exact el_bools
                                                                                         | exact el_ops
                                                                                         )))
      | ((with_reducible apply js_one2); (focus rfl); (focus rfl); (focus rfl); (focus (with_reducible first
                                                                                         | exact el_int
                                                                                         | exact el_bool
                                                                                         | exact el_byte
                                                                                         | exact el_string
                                                                                         | exact el_Errno
                                                                                         | exact el_Op
                                                                                         | exact el_ints
                                                                                         | exact el_bools
                                                                                         | exact el_ops
                                                                                         )))
      | ((with_reducible apply js_one3); (focus rfl); (focus rfl); (focus rfl); (focus (with_reducible first
                                                                                         | exact el_int
                                                                                         | exact el_bool
                                                                                         | exact el_byte
                                                                                         | exact el_string
                                                                                         | exact el_Errno
                                                                                         | exact el_Op
                                                                                         | exact el_ints
                                                                                         | exact el_bools
                                                                                         | exact el_ops
                                                                                         )))
      | ((with_reducible apply japp1); (focus rfl); (focus rfl); (focus rfl); (focus (with_reducible first
                                                                                       | exact el_int
                                                                                       | exact el_bool
                                                                                       | exact el_byte
                                                                                       | exact el_string
                                                                                       | exact el_Errno
                                                                                       | exact el_Op
                                                                                       | exact el_ints
                                                                                       | exact el_bools
                                                                                       | exact el_ops
                                                                                       )); (focus rfl); (focus rfl); (focus rfl); (focus (first | omega | (simp only [List.length_map, List.length_range, List.length_append, List.length_cons, List.length_nil]; omega) | (simp only [List.length_map, List.length_range, List.length_append, List.length_cons, List.length_nil, List.length_take, List.length_drop]; omega))); (focus (first | omega | (simp only [List.length_map, List.length_range, List.length_append, List.length_cons, List.length_nil]; omega) | (simp only [List.length_map, List.length_range, List.length_append, List.length_cons, List.length_nil, List.length_take, List.length_drop]; omega))))
      | ((with_reducible apply jqbor); (focus rfl); (focus rfl); (focus exact cal_Truths1); (focus exact hT1); (focus exact ⟨bor_ptr (List.mem_cons_of_mem _ List.mem_cons_self) ⟨bord_bools (List.mem_cons_of_mem _ (List.mem_cons_of_mem _ List.mem_cons_self)) d.len (by omega), trivial⟩, bor_ptr List.mem_cons_self ⟨bord_int' rfl, trivial⟩, trivial⟩); (focus rfl))
      | ((with_reducible apply jqbor); (focus rfl); (focus rfl); (focus exact cal_Truths2); (focus exact hT2); (focus exact ⟨bor_ptr (List.mem_cons_of_mem _ List.mem_cons_self) ⟨bord_bools (List.mem_cons_of_mem _ (List.mem_cons_of_mem _ List.mem_cons_self)) d.len (by omega), trivial⟩, bor_ptr (List.mem_cons_of_mem _ (List.mem_cons_of_mem _ (List.mem_cons_of_mem _ List.mem_cons_self))) ⟨bord_d _ _, trivial⟩, bor_ptr List.mem_cons_self ⟨bord_int' rfl, trivial⟩, trivial⟩); (focus rfl))
      | refine stp ?_
      | refine two ?_ ?_
      | (refine imp fun hc => ?_) <;> try (first | contradiction | (exfalso; omega))
      | refine all fun v_ => ?_)
    refine retv (vfz (t := 6) (f := boolC) (h1 := [_, _]) 1 1 rfl rfl rfl (bools_flat out) d.len (fun _ => rfl) (by omega) (by omega)) ?_
    ((with_reducible apply rq2); rfl; rfl; rfl)
    refine ret_eq ?_
    rw [hs, if_neg hcr, d.fin]
  | succ m =>
    have hi : m < l.length := by omega
    have hk := g.kind m hi
    have ht := tAt_eq l x c m hi
    unfold Sp.stepT at ht
    rw [kindAt_eq l m hi, valAt_eq l m hi] at ht
    have hm1 : ((m + 1 : Nat) : Int) - 1 = (m : Int) := by omega
    have hrk := rank_succ l m hi
    have hrl := rank_le (l := l) (i := m + 1) (by omega)
    have hr6 := g.ah
    rw [hm1]
    by_cases hA : l[m].kind = 13 ∨ l[m].kind = 11 ∨ l[m].kind = 12
    · rw [if_neg (show ¬ aheadP l[m].kind by unfold aheadP; omega), Nat.add_zero] at hrk
      have hT1 := True.intro
      have hT2 := True.intro
      have hv := g.prop m hi
      by_cases hk13 : l[m].kind = 13
      · obtain ⟨v0, v1⟩ := hv hk13
        repeat' (first
          | ((with_reducible apply call0); (focus rfl); (focus exact cal_Ahead); (focus exact hA); (focus rfl))
          | ((with_reducible apply call0); (focus rfl); (focus exact cal_Ends); (focus exact hE); (focus rfl))
          | ((with_reducible apply jboxT); (focus rfl); (focus rfl); (focus rfl))
          | ((with_reducible apply jalloc1T); (focus (with_reducible first
                                                       | exact el_int
                                                       | exact el_bool
                                                       | exact el_byte
                                                       | exact el_string
                                                       | exact el_Errno
                                                       | exact el_Op
                                                       | exact el_ints
                                                       | exact el_bools
                                                       | exact el_ops
                                                       )); (focus rfl); (focus rfl))
          | ((with_reducible apply jallocN); (focus (with_reducible first
                                                      | exact el_int
                                                      | exact el_bool
                                                      | exact el_byte
                                                      | exact el_string
                                                      | exact el_Errno
                                                      | exact el_Op
                                                      | exact el_ints
                                                      | exact el_bools
                                                      | exact el_ops
                                                      )); (focus rfl))
          | ((with_reducible apply js_all); (focus rfl); (focus rfl); (focus rfl); (focus (with_reducible first
                                                                                            | exact el_int
                                                                                            | exact el_bool
                                                                                            | exact el_byte
                                                                                            | exact el_string
                                                                                            | exact el_Errno
                                                                                            | exact el_Op
                                                                                            | exact el_ints
                                                                                            | exact el_bools
                                                                                            | exact el_ops
                                                                                            )); (focus rfl); (focus rfl))
          | ((with_reducible apply js_head); (focus rfl); (focus rfl); (focus rfl); (focus (with_reducible first
                                                                                             | exact el_int
                                                                                             | exact el_bool
                                                                                             | exact el_byte
                                                                                             | exact el_string
                                                                                             | exact el_Errno
                                                                                             | exact el_Op
                                                                                             | exact el_ints
                                                                                             | exact el_bools
                                                                                             | exact el_ops
                                                                                             )))
          | ((with_reducible apply jmk_bool); (focus rfl); (focus rfl); (focus (with_reducible first
                                                                                 | exact el_int
                                                                                 | exact el_bool
                                                                                 | exact el_byte
                                                                                 | exact el_string
                                                                                 | exact el_Errno
                                                                                 | exact el_Op
                                                                                 | exact el_ints
                                                                                 | exact el_bools
                                                                                 | exact el_ops
                                                                                 )); (focus omega); (focus omega); (focus rfl))
          | ((with_reducible apply jmk_int); (focus rfl); (focus rfl); (focus (with_reducible first
                                                                                | exact el_int
                                                                                | exact el_bool
                                                                                | exact el_byte
                                                                                | exact el_string
                                                                                | exact el_Errno
                                                                                | exact el_Op
                                                                                | exact el_ints
                                                                                | exact el_bools
                                                                                | exact el_ops
                                                                                )); (focus omega); (focus omega); (focus rfl))
          | ((with_reducible apply js_map0); (focus rfl); (focus rfl); (focus rfl); (focus (with_reducible first
                                                                                             | exact el_int
                                                                                             | exact el_bool
                                                                                             | exact el_byte
                                                                                             | exact el_string
                                                                                             | exact el_Errno
                                                                                             | exact el_Op
                                                                                             | exact el_ints
                                                                                             | exact el_bools
                                                                                             | exact el_ops
                                                                                             )); (focus (first | omega | (simp only [List.length_map, List.length_range, List.length_append, List.length_cons, List.length_nil]; omega) | (simp only [List.length_map, List.length_range, List.length_append, List.length_cons, List.length_nil, List.length_take, List.length_drop]; omega))))
          | ((with_reducible apply js_map1); (focus rfl); (focus rfl); (focus rfl); (focus (with_reducible first
                                                                                             | exact el_int
                                                                                             | exact el_bool
                                                                                             | exact el_byte
                                                                                             | exact el_string
                                                                                             | exact el_Errno
                                                                                             | exact el_Op
                                                                                             | exact el_ints
                                                                                             | exact el_bools
                                                                                             | exact el_ops
                                                                                             )); (focus (first | omega | (simp only [List.length_map, List.length_range, List.length_append, List.length_cons, List.length_nil]; omega) | (simp only [List.length_map, List.length_range, List.length_append, List.length_cons, List.length_nil, List.length_take, List.length_drop]; omega))))
          | ((with_reducible apply js_map2); (focus rfl); (focus rfl); (focus rfl); (focus (with_reducible first
                                                                                             | exact el_int
                                                                                             | exact el_bool
                                                                                             | exact el_byte
                                                                                             | exact el_string
                                                                                             | exact el_Errno
                                                                                             | exact el_Op
                                                                                             | exact el_ints
                                                                                             | exact el_bools
                                                                                             | exact el_ops
                                                                                             )); (focus (first | omega | (simp only [List.length_map, List.length_range, List.length_append, List.length_cons, List.length_nil]; omega) | (simp only [List.length_map, List.length_range, List.length_append, List.length_cons, List.length_nil, List.length_take, List.length_drop]; omega))))
          | ((with_reducible apply js_map3); (focus rfl); (focus rfl); (focus rfl); (focus (with_reducible first
                                                                                             | exact el_int
                                                                                             | exact el_bool
                                                                                             | exact el_byte
                                                                                             | exact el_string
                                                                                             | exact el_Errno
                                                                                             | exact el_Op
                                                                                             | exact el_ints
                                                                                             | exact el_bools
                                                                                             | exact el_ops
                                                                                             )); (focus (first | omega | (simp only [List.length_map, List.length_range, List.length_append, List.length_cons, List.length_nil]; omega) | (simp only [List.length_map, List.length_range, List.length_append, List.length_cons, List.length_nil, List.length_take, List.length_drop]; omega))))
          | ((with_reducible apply js_one1); (focus rfl); (focus rfl); (focus rfl); (focus (with_reducible first
                                                                                             | exact el_int
                                                                                             | exact el_bool
                                                                                             | exact el_byte
                                                                                             | exact el_string
                                                                                             | exact el_Errno
                                                                                             | exact el_Op
                                                                                             | exact el_ints
                                                                                             | exact el_bools
                                                                                             | exact el_ops
                                                                                             )))
          | ((with_reducible apply js_one2); (focus rfl); (focus rfl); (focus rfl); (focus (with_reducible first
                                                                                             | exact el_int
                                                                                             | exact el_bool
                                                                                             | exact el_byte
                                                                                             | exact el_string
                                                                                             | exact el_Errno
                                                                                             | exact el_Op
                                                                                             | exact el_ints
                                                                                             | exact el_bools
                                                                                             | exact el_ops
                                                                                             )))
          | ((with_reducible apply js_one3); (focus rfl); (focus rfl); (focus rfl); (focus (with_reducible first
                                                                                             | exact el_int
                                                                                             | exact el_bool
                                                                                             | exact el_byte
                                                                                             | exact el_string
                                                                                             | exact el_Errno
                                                                                             | exact el_Op
                                                                                             | exact el_ints
                                                                                             | exact el_bools
                                                                                             | exact el_ops
                                                                                             )))
          | ((with_reducible apply japp1); (focus rfl); (focus rfl); (focus rfl); (focus (with_reducible first
                                                                                           | exact el_int
                                                                                           | exact el_bool
                                                                                           | exact el_byte
                                                                                           | exact el_string
                                                                                           | exact el_Errno
                                                                                           | exact el_Op
                                                                                           | exact el_ints
                                                                                           | exact el_bools
                                                                                           | exact el_ops
                                                                                           )); (focus rfl); (focus rfl); (focus rfl); (focus (first | omega | (simp only [List.length_map, List.length_range, List.length_append, List.length_cons, List.length_nil]; omega) | (simp only [List.length_map, List.length_range, List.length_append, List.length_cons, List.length_nil, List.length_take, List.length_drop]; omega))); (focus (first | omega | (simp only [List.length_map, List.length_range, List.length_append, List.length_cons, List.length_nil]; omega) | (simp only [List.length_map, List.length_range, List.length_append, List.length_cons, List.length_nil, List.length_take, List.length_drop]; omega))))
          | ((with_reducible apply jqbor); (focus rfl); (focus rfl); (focus exact cal_Truths1); (focus exact hT1); (focus exact ⟨bor_ptr (List.mem_cons_of_mem _ List.mem_cons_self) ⟨bord_bools (List.mem_cons_of_mem _ (List.mem_cons_of_mem _ List.mem_cons_self)) d.len (by omega), trivial⟩, bor_ptr List.mem_cons_self ⟨bord_int' rfl, trivial⟩, trivial⟩); (focus rfl))
          | ((with_reducible apply jqbor); (focus rfl); (focus rfl); (focus exact cal_Truths2); (focus exact hT2); (focus exact ⟨bor_ptr (List.mem_cons_of_mem _ List.mem_cons_self) ⟨bord_bools (List.mem_cons_of_mem _ (List.mem_cons_of_mem _ List.mem_cons_self)) d.len (by omega), trivial⟩, bor_ptr (List.mem_cons_of_mem _ (List.mem_cons_of_mem _ (List.mem_cons_of_mem _ List.mem_cons_self))) ⟨bord_d _ _, trivial⟩, bor_ptr List.mem_cons_self ⟨bord_int' rfl, trivial⟩, trivial⟩); (focus rfl))
          | refine stp ?_
          | refine two ?_ ?_
          | (refine imp fun hc => ?_) <;> try (first | contradiction | (exfalso; omega))
          | refine all fun v_ => ?_)
        try simp only [Int.toNat_natCast, Nat.mul_one]
        refine ⟨(m, out.set m (x[l[m].val.toNat]'(by omega)), v_), ⟨by dsimp only; omega, ?_⟩, by dsimp only; omega, vle (.cons_cons _ (.cons _ (List.Sublist.refl _))) ?_⟩
        rotate_left
        · repeat (first
            | exact Env.le_nil _
            | refine Env.le_cons (AV.le_refl _) ?_
            | refine Env.le_cons (AV.le_int rfl (by first | rfl | omega | (dsimp only; omega))) ?_)
        refine d.next hi ?_
        rw [ht, if_pos hk13, List.getElem?_eq_getElem (by omega)]; rfl
      repeat' (first
        | ((with_reducible apply call0); (focus rfl); (focus exact cal_Ahead); (focus exact hA); (focus rfl))
        | ((with_reducible apply call0); (focus rfl); (focus exact cal_Ends); (focus exact hE); (focus rfl))
        | ((with_reducible apply jboxT); (focus rfl); (focus rfl); (focus rfl))
        | ((with_reducible apply jalloc1T); (focus (with_reducible first
                                                     | exact el_int
                                                     | exact el_bool
                                                     | exact el_byte
                                                     | exact el_string
                                                     | exact el_Errno
                                                     | exact el_Op
                                                     | exact el_ints
                                                     | exact el_bools
                                                     | exact el_ops
                                                     )); (focus rfl); (focus rfl))
        | ((with_reducible apply jallocN); (focus (with_reducible first
                                                    | exact el_int
                                                    | exact el_bool
                                                    | exact el_byte
                                                    | exact el_string
                                                    | exact el_Errno
                                                    | exact el_Op
                                                    | exact el_ints
                                                    | exact el_bools
                                                    | exact el_ops
                                                    )); (focus rfl))
        | ((with_reducible apply js_all); (focus rfl); (focus rfl); (focus rfl); (focus (with_reducible first
                                                                                          | exact el_int
                                                                                          | exact el_bool
                                                                                          | exact el_byte
                                                                                          | exact el_string
                                                                                          | exact el_Errno
                                                                                          | exact el_Op
                                                                                          | exact el_ints
                                                                                          | exact el_bools
                                                                                          | exact el_ops
                                                                                          )); (focus rfl); (focus rfl))
        | ((with_reducible apply js_head); (focus rfl); (focus rfl); (focus rfl); (focus (with_reducible first
                                                                                           | exact el_int
                                                                                           | exact el_bool
                                                                                           | exact el_byte
                                                                                           | exact el_string
                                                                                           | exact el_Errno
                                                                                           | exact el_Op
                                                                                           | exact el_ints
                                                                                           | exact el_bools
                                                                                           | exact el_ops
                                                                                           )))
        | ((with_reducible apply jmk_bool); (focus rfl); (focus rfl); (focus (with_reducible first
                                                                               | exact el_int
                                                                               | exact el_bool
                                                                               | exact el_byte
                                                                               | exact el_string
                                                                               | exact el_Errno
                                                                               | exact el_Op
                                                                               | exact el_ints
                                                                               | exact el_bools
                                                                               | exact el_ops
                                                                               )); (focus omega); (focus omega); (focus rfl))
        | ((with_reducible apply jmk_int); (focus rfl); (focus rfl); (focus (with_reducible first
                                                                              | exact el_int
                                                                              | exact el_bool
                                                                              | exact el_byte
                                                                              | exact el_string
                                                                              | exact el_Errno
                                                                              | exact el_Op
                                                                              | exact el_ints
                                                                              | exact el_bools
                                                                              | exact el_ops
                                                                              )); (focus omega); (focus omega); (focus rfl))
        | ((with_reducible apply js_map0); (focus rfl); (focus rfl); (focus rfl); (focus (with_reducible first
                                                                                           | exact el_int
                                                                                           | exact el_bool
                                                                                           | exact el_byte
                                                                                           | exact el_string
                                                                                           | exact el_Errno
                                                                                           | exact el_Op
                                                                                           | exact el_ints
                                                                                           | exact el_bools
                                                                                           | exact el_ops
                                                                                           )); (focus (first | omega | (simp only [List.length_map, List.length_range, List.length_append, List.length_cons, List.length_nil]; omega) | (simp only [List.length_map, List.length_range, List.length_append, List.length_cons, List.length_nil, List.length_take, List.length_drop]; omega))))
        | ((with_reducible apply js_map1); (focus rfl); (focus rfl); (focus rfl); (focus (with_reducible first
                                                                                           | exact el_int
                                                                                           | exact el_bool
                                                                                           | exact el_byte
                                                                                           | exact el_string
                                                                                           | exact el_Errno
                                                                                           | exact el_Op
                                                                                           | exact el_ints
                                                                                           | exact el_bools
                                                                                           | exact el_ops
                                                                                           )); (focus (first | omega | (simp only [List.length_map, List.length_range, List.length_append, List.length_cons, List.length_nil]; omega) | (simp only [List.length_map, List.length_range, List.length_append, List.length_cons, List.length_nil, List.length_take, List.length_drop]; omega))))
        | ((with_reducible apply js_map2); (focus rfl); (focus rfl); (focus rfl); (focus (with_reducible first
                                                                                           | exact el_int
                                                                                           | exact el_bool
                                                                                           | exact el_byte
                                                                                           | exact el_string
                                                                                           | exact el_Errno
                                                                                           | exact el_Op
                                                                                           | exact el_ints
                                                                                           | exact el_bools
                                                                                           | exact el_ops
                                                                                           )); (focus (first | omega | (simp only [List.length_map, List.length_range, List.length_append, List.length_cons, List.length_nil]; omega) | (simp only [List.length_map, List.length_range, List.length_append, List.length_cons, List.length_nil, List.length_take, List.length_drop]; omega))))
        | ((with_reducible apply js_map3); (focus rfl); (focus rfl); (focus rfl); (focus (with_reducible first
                                                                                           | exact el_int
                                                                                           | exact el_bool
                                                                                           | exact el_byte
                                                                                           | exact el_string
                                                                                           | exact el_Errno
                                                                                           | exact el_Op
                                                                                           | exact el_ints
                                                                                           | exact el_bools
                                                                                           | exact el_ops
                                                                                           )); (focus (first | omega | (simp only [List.length_map, List.length_range, List.length_append, List.length_cons, List.length_nil]; omega) | (simp only [List.length_map, List.length_range, List.length_append, List.length_cons, List.length_nil, List.length_take, List.length_drop]; omega))))
        | ((with_reducible apply js_one1); (focus rfl); (focus rfl); (focus rfl); (focus (with_reducible first
                                                                                           | exact el_int
                                                                                           | exact el_bool
                                                                                           | exact el_byte
                                                                                           | exact el_string
                                                                                           | exact el_Errno
                                                                                           | exact el_Op
                                                                                           | exact el_ints
                                                                                           | exact el_bools
                                                                                           | exact el_ops
                                                                                           )))
        | ((with_reducible apply js_one2); (focus rfl); (focus rfl); (focus rfl); (focus (with_reducible first
                                                                                           | exact el_int
                                                                                           | exact el_bool
                                                                                           | exact el_byte
                                                                                           | exact el_string
                                                                                           | exact el_Errno
                                                                                           | exact el_Op
                                                                                           | exact el_ints
                                                                                           | exact el_bools
                                                                                           | exact el_ops
                                                                                           )))
        | ((with_reducible apply js_one3); (focus rfl); (focus rfl); (focus rfl); (focus (with_reducible first
                                                                                           | exact el_int
                                                                                           | exact el_bool
                                                                                           | exact el_byte
                                                                                           | exact el_string
                                                                                           | exact el_Errno
                                                                                           | exact el_Op
                                                                                           | exact el_ints
                                                                                           | exact el_bools
                                                                                           | exact el_ops
                                                                                           )))
        | ((with_reducible apply japp1); (focus rfl); (focus rfl); (focus rfl); (focus (with_reducible first
                                                                                         | exact el_int
                                                                                         | exact el_bool
                                                                                         | exact el_byte
                                                                                         | exact el_string
                                                                                         | exact el_Errno
                                                                                         | exact el_Op
                                                                                         | exact el_ints
                                                                                         | exact el_bools
                                                                                         | exact el_ops
                                                                                         )); (focus rfl); (focus rfl); (focus rfl); (focus (first | omega | (simp only [List.length_map, List.length_range, List.length_append, List.length_cons, List.length_nil]; omega) | (simp only [List.length_map, List.length_range, List.length_append, List.length_cons, List.length_nil, List.length_take, List.length_drop]; omega))); (focus (first | omega | (simp only [List.length_map, List.length_range, List.length_append, List.length_cons, List.length_nil]; omega) | (simp only [List.length_map, List.length_range, List.length_append, List.length_cons, List.length_nil, List.length_take, List.length_drop]; omega))))
        | ((with_reducible apply jqbor); (focus rfl); (focus rfl); (focus exact cal_Truths1); (focus exact hT1); (focus exact ⟨bor_ptr (List.mem_cons_of_mem _ List.mem_cons_self) ⟨bord_bools (List.mem_cons_of_mem _ (List.mem_cons_of_mem _ List.mem_cons_self)) d.len (by omega), trivial⟩, bor_ptr List.mem_cons_self ⟨bord_int' rfl, trivial⟩, trivial⟩); (focus rfl))
        | ((with_reducible apply jqbor); (focus rfl); (focus rfl); (focus exact cal_Truths2); (focus exact hT2); (focus exact ⟨bor_ptr (List.mem_cons_of_mem _ List.mem_cons_self) ⟨bord_bools (List.mem_cons_of_mem _ (List.mem_cons_of_mem _ List.mem_cons_self)) d.len (by omega), trivial⟩, bor_ptr (List.mem_cons_of_mem _ (List.mem_cons_of_mem _ (List.mem_cons_of_mem _ List.mem_cons_self))) ⟨bord_d _ _, trivial⟩, bor_ptr List.mem_cons_self ⟨bord_int' rfl, trivial⟩, trivial⟩); (focus rfl))
        | refine stp ?_
        | refine two ?_ ?_
        | (refine imp fun hc => ?_) <;> try (first | contradiction | (exfalso; omega))
        | refine all fun v_ => ?_)
      · try simp only [Int.toNat_natCast, Nat.mul_one]
        refine ⟨(m, out.set m true, v_), ⟨by dsimp only; omega, ?_⟩, by dsimp only; omega, vle (.cons_cons _ (.cons _ (List.Sublist.refl _))) ?_⟩
        rotate_left
        · repeat (first
            | exact Env.le_nil _
            | refine Env.le_cons (AV.le_refl _) ?_
            | refine Env.le_cons (AV.le_int rfl (by first | rfl | omega | (dsimp only; omega))) ?_)
        refine d.next hi ?_
        rw [ht, if_neg hk13, if_pos (by omega)]
      · try simp only [Int.toNat_natCast, Nat.mul_one]
        refine ⟨(m, out, v_), ⟨by dsimp only; omega, ?_⟩, by dsimp only; omega, vle (.cons_cons _ (.cons _ (List.Sublist.refl _))) ?_⟩
        rotate_left
        · repeat (first
            | exact Env.le_nil _
            | refine Env.le_cons (AV.le_refl _) ?_
            | refine Env.le_cons (AV.le_int rfl (by first | rfl | omega | (dsimp only; omega))) ?_)
        refine d.no hi ?_
        rw [ht, if_neg hk13, if_neg (by omega), if_pos (by omega)]
    by_cases hB : l[m].kind = 10
    · rw [if_neg (show ¬ aheadP l[m].kind by unfold aheadP; omega), Nat.add_zero] at hrk
      obtain ⟨q1, q2, q3, q4, q5⟩ := first_in hi (g.well m hi) (by rw [hB]; decide)
      have hT1 := Truths1 GP out m (by omega) (by omega)
      rw [d.get (Nat.le_refl _) q1] at hT1
      have hT2 := True.intro
      repeat' (first
        | ((with_reducible apply call0); (focus rfl); (focus exact cal_Ahead); (focus exact hA); (focus rfl))
        | ((with_reducible apply call0); (focus rfl); (focus exact cal_Ends); (focus exact hE); (focus rfl))
        | ((with_reducible apply jboxT); (focus rfl); (focus rfl); (focus rfl))
        | ((with_reducible apply jalloc1T); (focus (with_reducible first
                                                     | exact el_int
                                                     | exact el_bool
                                                     | exact el_byte
                                                     | exact el_string
                                                     | exact el_Errno
                                                     | exact el_Op
                                                     | exact el_ints
                                                     | exact el_bools
                                                     | exact el_ops
                                                     )); (focus rfl); (focus rfl))
        | ((with_reducible apply jallocN); (focus (with_reducible first
                                                    | exact el_int
                                                    | exact el_bool
                                                    | exact el_byte
                                                    | exact el_string
                                                    | exact el_Errno
                                                    | exact el_Op
                                                    | exact el_ints
                                                    | exact el_bools
                                                    | exact el_ops
                                                    )); (focus rfl))
        | ((with_reducible apply js_all); (focus rfl); (focus rfl); (focus rfl); (focus (with_reducible first
                                                                                          | exact el_int
                                                                                          | exact el_bool
                                                                                          | exact el_byte
                                                                                          | exact el_string
                                                                                          | exact el_Errno
                                                                                          | exact el_Op
                                                                                          | exact el_ints
                                                                                          | exact el_bools
                                                                                          | exact el_ops
                                                                                          )); (focus rfl); (focus rfl))
        | ((with_reducible apply js_head); (focus rfl); (focus rfl); (focus rfl); (focus (with_reducible first
                                                                                           | exact el_int
                                                                                           | exact el_bool
                                                                                           | exact el_byte
                                                                                           | exact el_string
                                                                                           | exact el_Errno
                                                                                           | exact el_Op
                                                                                           | exact el_ints
                                                                                           | exact el_bools
                                                                                           | exact el_ops
                                                                                           )))
        | ((with_reducible apply jmk_bool); (focus rfl); (focus rfl); (focus (with_reducible first
                                                                               | exact el_int
                                                                               | exact el_bool
                                                                               | exact el_byte
                                                                               | exact el_string
                                                                               | exact el_Errno
                                                                               | exact el_Op
                                                                               | exact el_ints
                                                                               | exact el_bools
                                                                               | exact el_ops
                                                                               )); (focus omega); (focus omega); (focus rfl))
        | ((with_reducible apply jmk_int); (focus rfl); (focus rfl); (focus (with_reducible first
                                                                              | exact el_int
                                                                              | exact el_bool
                                                                              | exact el_byte
                                                                              | exact el_string
                                                                              | exact el_Errno
                                                                              | exact el_Op
                                                                              | exact el_ints
                                                                              | exact el_bools
                                                                              | exact el_ops
                                                                              )); (focus omega); (focus omega); (focus rfl))
        | ((with_reducible apply js_map0); (focus rfl); (focus rfl); (focus rfl); (focus (with_reducible first
                                                                                           | exact el_int
                                                                                           | exact el_bool
                                                                                           | exact el_byte
                                                                                           | exact el_string
                                                                                           | exact el_Errno
                                                                                           | exact el_Op
                                                                                           | exact el_ints
                                                                                           | exact el_bools
                                                                                           | exact el_ops
                                                                                           )); (focus (first | omega | (simp only [List.length_map, List.length_range, List.length_append, List.length_cons, List.length_nil]; omega) | (simp only [List.length_map, List.length_range, List.length_append, List.length_cons, List.length_nil, List.length_take, List.length_drop]; omega))))
        | ((with_reducible apply js_map1); (focus rfl); (focus rfl); (focus rfl); (focus (with_reducible first
                                                                                           | exact el_int
                                                                                           | exact el_bool
                                                                                           | exact el_byte
                                                                                           | exact el_string
                                                                                           | exact el_Errno
                                                                                           | exact el_Op
                                                                                           | exact el_ints
                                                                                           | exact el_bools
                                                                                           | exact el_ops
                                                                                           )); (focus (first | omega | (simp only [List.length_map, List.length_range, List.length_append, List.length_cons, List.length_nil]; omega) | (simp only [List.length_map, List.length_range, List.length_append, List.length_cons, List.length_nil, List.length_take, List.length_drop]; omega))))
        | ((with_reducible apply js_map2); (focus rfl); (focus rfl); (focus rfl); (focus (with_reducible first
                                                                                           | exact el_int
                                                                                           | exact el_bool
                                                                                           | exact el_byte
                                                                                           | exact el_string
                                                                                           | exact el_Errno
                                                                                           | exact el_Op
                                                                                           | exact el_ints
                                                                                           | exact el_bools
                                                                                           | exact el_ops
                                                                                           )); (focus (first | omega | (simp only [List.length_map, List.length_range, List.length_append, List.length_cons, List.length_nil]; omega) | (simp only [List.length_map, List.length_range, List.length_append, List.length_cons, List.length_nil, List.length_take, List.length_drop]; omega))))
        | ((with_reducible apply js_map3); (focus rfl); (focus rfl); (focus rfl); (focus (with_reducible first
                                                                                           | exact el_int
                                                                                           | exact el_bool
                                                                                           | exact el_byte
                                                                                           | exact el_string
                                                                                           | exact el_Errno
                                                                                           | exact el_Op
                                                                                           | exact el_ints
                                                                                           | exact el_bools
                                                                                           | exact el_ops
                                                                                           )); (focus (first | omega | (simp only [List.length_map, List.length_range, List.length_append, List.length_cons, List.length_nil]; omega) | (simp only [List.length_map, List.length_range, List.length_append, List.length_cons, List.length_nil, List.length_take, List.length_drop]; omega))))
        | ((with_reducible apply js_one1); (focus rfl); (focus rfl); (focus rfl); (focus (with_reducible first
                                                                                           | exact el_int
                                                                                           | exact el_bool
                                                                                           | exact el_byte
                                                                                           | exact el_string
                                                                                           | exact el_Errno
                                                                                           | exact el_Op
                                                                                           | exact el_ints
                                                                                           | exact el_bools
                                                                                           | exact el_ops
                                                                                           )))
        | ((with_reducible apply js_one2); (focus rfl); (focus rfl); (focus rfl); (focus (with_reducible first
                                                                                           | exact el_int
                                                                                           | exact el_bool
                                                                                           | exact el_byte
                                                                                           | exact el_string
                                                                                           | exact el_Errno
                                                                                           | exact el_Op
                                                                                           | exact el_ints
                                                                                           | exact el_bools
                                                                                           | exact el_ops
                                                                                           )))
        | ((with_reducible apply js_one3); (focus rfl); (focus rfl); (focus rfl); (focus (with_reducible first
                                                                                           | exact el_int
                                                                                           | exact el_bool
                                                                                           | exact el_byte
                                                                                           | exact el_string
                                                                                           | exact el_Errno
                                                                                           | exact el_Op
                                                                                           | exact el_ints
                                                                                           | exact el_bools
                                                                                           | exact el_ops
                                                                                           )))
        | ((with_reducible apply japp1); (focus rfl); (focus rfl); (focus rfl); (focus (with_reducible first
                                                                                         | exact el_int
                                                                                         | exact el_bool
                                                                                         | exact el_byte
                                                                                         | exact el_string
                                                                                         | exact el_Errno
                                                                                         | exact el_Op
                                                                                         | exact el_ints
                                                                                         | exact el_bools
                                                                                         | exact el_ops
                                                                                         )); (focus rfl); (focus rfl); (focus rfl); (focus (first | omega | (simp only [List.length_map, List.length_range, List.length_append, List.length_cons, List.length_nil]; omega) | (simp only [List.length_map, List.length_range, List.length_append, List.length_cons, List.length_nil, List.length_take, List.length_drop]; omega))); (focus (first | omega | (simp only [List.length_map, List.length_range, List.length_append, List.length_cons, List.length_nil]; omega) | (simp only [List.length_map, List.length_range, List.length_append, List.length_cons, List.length_nil, List.length_take, List.length_drop]; omega))))
        | ((with_reducible apply jqbor); (focus rfl); (focus rfl); (focus exact cal_Truths1); (focus exact hT1); (focus exact ⟨bor_ptr (List.mem_cons_of_mem _ List.mem_cons_self) ⟨bord_bools (List.mem_cons_of_mem _ (List.mem_cons_of_mem _ List.mem_cons_self)) d.len (by omega), trivial⟩, bor_ptr List.mem_cons_self ⟨bord_int' rfl, trivial⟩, trivial⟩); (focus rfl))
        | ((with_reducible apply jqbor); (focus rfl); (focus rfl); (focus exact cal_Truths2); (focus exact hT2); (focus exact ⟨bor_ptr (List.mem_cons_of_mem _ List.mem_cons_self) ⟨bord_bools (List.mem_cons_of_mem _ (List.mem_cons_of_mem _ List.mem_cons_self)) d.len (by omega), trivial⟩, bor_ptr (List.mem_cons_of_mem _ (List.mem_cons_of_mem _ (List.mem_cons_of_mem _ List.mem_cons_self))) ⟨bord_d _ _, trivial⟩, bor_ptr List.mem_cons_self ⟨bord_int' rfl, trivial⟩, trivial⟩); (focus rfl))
        | refine stp ?_
        | refine two ?_ ?_
        | (refine imp fun hc => ?_) <;> try (first | contradiction | (exfalso; omega))
        | refine all fun v_ => ?_)
      try simp only [Int.toNat_natCast, Nat.mul_one]
      refine ⟨(m, out.set m (!tAt l x c (m + 1)), v_), ⟨by dsimp only; omega, ?_⟩, by dsimp only; omega, vle (.cons_cons _ (.cons _ (List.Sublist.refl _))) ?_⟩
      rotate_left
      · repeat (first
          | exact Env.le_nil _
          | refine Env.le_cons (AV.le_refl _) ?_
          | refine Env.le_cons (AV.le_int rfl (by first | rfl | omega | (dsimp only; omega))) ?_)
      refine d.next hi ?_
      rw [ht, if_neg (by omega), if_neg (by omega), if_neg (by omega), if_pos hB]
    by_cases hC : l[m].kind = 8 ∨ l[m].kind = 9
    · rw [if_neg (show ¬ aheadP l[m].kind by unfold aheadP; omega), Nat.add_zero] at hrk
      obtain ⟨q1, q2, q3, q4, q5⟩ := first_in hi (g.well m hi) (by rcases hC with h | h <;> rw [h] <;> decide)
      obtain ⟨r1, r2⟩ := second_in hi (g.well m hi) (by rcases hC with h | h <;> rw [h] <;> decide)
      have hT1 := Truths1 GP out m (by omega) (by omega)
      rw [d.get (Nat.le_refl _) q1] at hT1
      have he1 : es[m + 1] = (second l m : Int) := by rw [hes (m + 1) (by omega), ← q4]
      have hT2 := Truths2 GP out es m (by omega) (by omega) (by omega) (by omega)
      simp only [he1, Int.toNat_natCast] at hT2
      rw [d.get (by omega) r1] at hT2
      rw [if_pos (show m < second l m by omega), if_neg (by omega), if_neg (by omega), if_neg (by omega), if_neg (by omega)] at ht
      cases hgA : tAt l x c (m + 1) <;> cases hgB : tAt l x c (second l m) <;> rw [hgA] at hT1 ht <;> rw [hgB] at hT2 ht
      all_goals
        repeat' (first
          | ((with_reducible apply call0); (focus rfl); (focus exact cal_Ahead); (focus exact hA); (focus rfl))
          | ((with_reducible apply call0); (focus rfl); (focus exact cal_Ends); (focus exact hE); (focus rfl))
          | ((with_reducible apply jboxT); (focus rfl); (focus rfl); (focus rfl))
          | ((with_reducible apply jalloc1T); (focus (with_reducible first
                                                       | exact el_int
                                                       | exact el_bool
                                                       | exact el_byte
                                                       | exact el_string
                                                       | exact el_Errno
                                                       | exact el_Op
                                                       | exact el_ints
                                                       | exact el_bools
                                                       | exact el_ops
                                                       )); (focus rfl); (focus rfl))
          | ((with_reducible apply jallocN); (focus (with_reducible first
                                                      | exact el_int
                                                      | exact el_bool
                                                      | exact el_byte
                                                      | exact el_string
                                                      | exact el_Errno
                                                      | exact el_Op
                                                      | exact el_ints
                                                      | exact el_bools
                                                      | exact el_ops
                                                      )); (focus rfl))
          | ((with_reducible apply js_all); (focus rfl); (focus rfl); (focus rfl); (focus (with_reducible first
                                                                                            | exact el_int
                                                                                            | exact el_bool
                                                                                            | exact el_byte
                                                                                            | exact el_string
                                                                                            | exact el_Errno
                                                                                            | exact el_Op
                                                                                            | exact el_ints
                                                                                            | exact el_bools
                                                                                            | exact el_ops
                                                                                            )); (focus rfl); (focus rfl))
          | ((with_reducible apply js_head); (focus rfl); (focus rfl); (focus rfl); (focus (with_reducible first
                                                                                             | exact el_int
                                                                                             | exact el_bool
                                                                                             | exact el_byte
                                                                                             | exact el_string
                                                                                             | exact el_Errno
                                                                                             | exact el_Op
                                                                                             | exact el_ints
                                                                                             | exact el_bools
                                                                                             | exact el_ops
                                                                                             )))
          | ((with_reducible apply jmk_bool); (focus rfl); (focus rfl); (focus (with_reducible first
                                                                                 | exact el_int
                                                                                 | exact el_bool
                                                                                 | exact el_byte
                                                                                 | exact el_string
                                                                                 | exact el_Errno
                                                                                 | exact el_Op
                                                                                 | exact el_ints
                                                                                 | exact el_bools
                                                                                 | exact el_ops
                                                                                 )); (focus omega); (focus omega); (focus rfl))
          | ((with_reducible apply jmk_int); (focus rfl); (focus rfl); (focus (with_reducible first
                                                                                | exact el_int
                                                                                | exact el_bool
                                                                                | exact el_byte
                                                                                | exact el_string
                                                                                | exact el_Errno
                                                                                | exact el_Op
                                                                                | exact el_ints
                                                                                | exact el_bools
                                                                                | exact el_ops
                                                                                )); (focus omega); (focus omega); (focus rfl))
          | ((with_reducible apply js_map0); (focus rfl); (focus rfl); (focus rfl); (focus (with_reducible first
                                                                                             | exact el_int
                                                                                             | exact el_bool
                                                                                             | exact el_byte
                                                                                             | exact el_string
                                                                                             | exact el_Errno
                                                                                             | exact el_Op
                                                                                             | exact el_ints
                                                                                             | exact el_bools
                                                                                             | exact el_ops
                                                                                             )); (focus (first | omega | (simp only [List.length_map, List.length_range, List.length_append, List.length_cons, List.length_nil]; omega) | (simp only [List.length_map, List.length_range, List.length_append, List.length_cons, List.length_nil, List.length_take, List.length_drop]; omega))))
          | ((with_reducible apply js_map1); (focus rfl); (focus rfl); (focus rfl); (focus (with_reducible first
                                                                                             | exact el_int
                                                                                             | exact el_bool
                                                                                             | exact el_byte
                                                                                             | exact el_string
                                                                                             | exact el_Errno
                                                                                             | exact el_Op
                                                                                             | exact el_ints
                                                                                             | exact el_bools
                                                                                             | exact el_ops
                                                                                             )); (focus (first | omega | (simp only [List.length_map, List.length_range, List.length_append, List.length_cons, List.length_nil]; omega) | (simp only [List.length_map, List.length_range, List.length_append, List.length_cons, List.length_nil, List.length_take, List.length_drop]; omega))))
          | ((with_reducible apply js_map2); (focus rfl); (focus rfl); (focus rfl); (focus (with_reducible first
                                                                                             | exact el_int
                                                                                             | exact el_bool
                                                                                             | exact el_byte
                                                                                             | exact el_string
                                                                                             | exact el_Errno
                                                                                             | exact el_Op
                                                                                             | exact el_ints
                                                                                             | exact el_bools
                                                                                             | exact el_ops
                                                                                             )); (focus (first | omega | (simp only [List.length_map, List.length_range, List.length_append, List.length_cons, List.length_nil]; omega) | (simp only [List.length_map, List.length_range, List.length_append, List.length_cons, List.length_nil, List.length_take, List.length_drop]; omega))))
          | ((with_reducible apply js_map3); (focus rfl); (focus rfl); (focus rfl); (focus (with_reducible first
                                                                                             | exact el_int
                                                                                             | exact el_bool
                                                                                             | exact el_byte
                                                                                             | exact el_string
                                                                                             | exact el_Errno
                                                                                             | exact el_Op
                                                                                             | exact el_ints
                                                                                             | exact el_bools
                                                                                             | exact el_ops
                                                                                             )); (focus (first | omega | (simp only [List.length_map, List.length_range, List.length_append, List.length_cons, List.length_nil]; omega) | (simp only [List.length_map, List.length_range, List.length_append, List.length_cons, List.length_nil, List.length_take, List.length_drop]; omega))))
          | ((with_reducible apply js_one1); (focus rfl); (focus rfl); (focus rfl); (focus (with_reducible first
                                                                                             | exact el_int
                                                                                             | exact el_bool
                                                                                             | exact el_byte
                                                                                             | exact el_string
                                                                                             | exact el_Errno
                                                                                             | exact el_Op
                                                                                             | exact el_ints
                                                                                             | exact el_bools
                                                                                             | exact el_ops
                                                                                             )))
          | ((with_reducible apply js_one2); (focus rfl); (focus rfl); (focus rfl); (focus (with_reducible first
                                                                                             | exact el_int
                                                                                             | exact el_bool
                                                                                             | exact el_byte
                                                                                             | exact el_string
                                                                                             | exact el_Errno
                                                                                             | exact el_Op
                                                                                             | exact el_ints
                                                                                             | exact el_bools
                                                                                             | exact el_ops
                                                                                             )))
          | ((with_reducible apply js_one3); (focus rfl); (focus rfl); (focus rfl); (focus (with_reducible first
                                                                                             | exact el_int
                                                                                             | exact el_bool
                                                                                             | exact el_byte
                                                                                             | exact el_string
                                                                                             | exact el_Errno
                                                                                             | exact el_Op
                                                                                             | exact el_ints
                                                                                             | exact el_bools
                                                                                             | exact el_ops
                                                                                             )))
          | ((with_reducible apply japp1); (focus rfl); (focus rfl); (focus rfl); (focus (with_reducible first
                                                                                           | exact el_int
                                                                                           | exact el_bool
                                                                                           | exact el_byte
                                                                                           | exact el_string
                                                                                           | exact el_Errno
                                                                                           | exact el_Op
                                                                                           | exact el_ints
                                                                                           | exact el_bools
                                                                                           | exact el_ops
                                                                                           )); (focus rfl); (focus rfl); (focus rfl); (focus (first | omega | (simp only [List.length_map, List.length_range, List.length_append, List.length_cons, List.length_nil]; omega) | (simp only [List.length_map, List.length_range, List.length_append, List.length_cons, List.length_nil, List.length_take, List.length_drop]; omega))); (focus (first | omega | (simp only [List.length_map, List.length_range, List.length_append, List.length_cons, List.length_nil]; omega) | (simp only [List.length_map, List.length_range, List.length_append, List.length_cons, List.length_nil, List.length_take, List.length_drop]; omega))))
          | ((with_reducible apply jqbor); (focus rfl); (focus rfl); (focus exact cal_Truths1); (focus exact hT1); (focus exact ⟨bor_ptr (List.mem_cons_of_mem _ List.mem_cons_self) ⟨bord_bools (List.mem_cons_of_mem _ (List.mem_cons_of_mem _ List.mem_cons_self)) d.len (by omega), trivial⟩, bor_ptr List.mem_cons_self ⟨bord_int' rfl, trivial⟩, trivial⟩); (focus rfl))
          | ((with_reducible apply jqbor); (focus rfl); (focus rfl); (focus exact cal_Truths2); (focus exact hT2); (focus exact ⟨bor_ptr (List.mem_cons_of_mem _ List.mem_cons_self) ⟨bord_bools (List.mem_cons_of_mem _ (List.mem_cons_of_mem _ List.mem_cons_self)) d.len (by omega), trivial⟩, bor_ptr (List.mem_cons_of_mem _ (List.mem_cons_of_mem _ (List.mem_cons_of_mem _ List.mem_cons_self))) ⟨bord_d _ _, trivial⟩, bor_ptr List.mem_cons_self ⟨bord_int' rfl, trivial⟩, trivial⟩); (focus rfl))
          | refine stp ?_
          | refine two ?_ ?_
          | (refine imp fun hc => ?_) <;> try (first | contradiction | (exfalso; omega))
          | refine all fun v_ => ?_)
      all_goals first
        | (try simp only [Int.toNat_natCast, Nat.mul_one]
           refine ⟨(m, out.set m true, v_), ⟨by dsimp only; omega, ?_⟩, by dsimp only; omega, vle (.cons_cons _ (.cons _ (List.Sublist.refl _))) ?_⟩
           rotate_left
           · repeat (first
               | exact Env.le_nil _
               | refine Env.le_cons (AV.le_refl _) ?_
               | refine Env.le_cons (AV.le_int rfl (by first | rfl | omega | (dsimp only; omega))) ?_)
           refine d.next hi ?_
           rw [ht]
           first
             | (rw [if_pos (by omega)]; rfl)
             | (rw [if_neg (by omega), if_pos (by omega)]; rfl))
        | (try simp only [Int.toNat_natCast, Nat.mul_one]
           refine ⟨(m, out.set m false, v_), ⟨by dsimp only; omega, ?_⟩, by dsimp only; omega, vle (.cons_cons _ (.cons _ (List.Sublist.refl _))) ?_⟩
           rotate_left
           · repeat (first
               | exact Env.le_nil _
               | refine Env.le_cons (AV.le_refl _) ?_
               | refine Env.le_cons (AV.le_int rfl (by first | rfl | omega | (dsimp only; omega))) ?_)
           refine d.next hi ?_
           rw [ht]
           first
             | (rw [if_pos (by omega)]; rfl)
             | (rw [if_neg (by omega), if_pos (by omega)]; rfl))
    have hah : aheadP l[m].kind := by unfold aheadP; omega
    rw [if_pos hah] at hrk
    have hT1 := True.intro
    have hT2 := True.intro
    have hcd : 0 ≤ c / 2 ^ (rank l m) := Int.ediv_nonneg hc0 (by exact_mod_cast Nat.zero_le _)
    have hcd2 : c / 2 ^ (rank l m) ≤ c := Int.ediv_le_self _ hc0
    have hrm : ((rank l m : Nat) : Int).toNat = rank l m := Int.toNat_natCast _
    rw [show ((rank l (m + 1) : Nat) : Int) = (rank l m : Nat) + 1 by omega]
    repeat' (first
      | ((with_reducible apply call0); (focus rfl); (focus exact cal_Ahead); (focus exact hA); (focus rfl))
      | ((with_reducible apply call0); (focus rfl); (focus exact cal_Ends); (focus exact hE); (focus rfl))
      | ((with_reducible apply jboxT); (focus rfl); (focus rfl); (focus rfl))
      | ((with_reducible apply jalloc1T); (focus (with_reducible first
                                                   | exact el_int
                                                   | exact el_bool
                                                   | exact el_byte
                                                   | exact el_string
                                                   | exact el_Errno
                                                   | exact el_Op
                                                   | exact el_ints
                                                   | exact el_bools
                                                   | exact el_ops
                                                   )); (focus rfl); (focus rfl))
      | ((with_reducible apply jallocN); (focus (with_reducible first
                                                  | exact el_int
                                                  | exact el_bool
                                                  | exact el_byte
                                                  | exact el_string
                                                  | exact el_Errno
                                                  | exact el_Op
                                                  | exact el_ints
                                                  | exact el_bools
                                                  | exact el_ops
                                                  )); (focus rfl))
      | ((with_reducible apply js_all); (focus rfl); (focus rfl); (focus rfl); (focus (with_reducible first
                                                                                        | exact el_int
                                                                                        | exact el_bool
                                                                                        | exact el_byte
                                                                                        | exact el_string
                                                                                        | exact el_Errno
                                                                                        | exact el_Op
                                                                                        | exact el_ints
                                                                                        | exact el_bools
                                                                                        | exact el_ops
                                                                                        )); (focus rfl); (focus rfl))
      | ((with_reducible apply js_head); (focus rfl); (focus rfl); (focus rfl); (focus (with_reducible first
                                                                                         | exact el_int
                                                                                         | exact el_bool
                                                                                         | exact el_byte
                                                                                         | exact el_string
                                                                                         | exact el_Errno
                                                                                         | exact el_Op
                                                                                         | exact el_ints
                                                                                         | exact el_bools
                                                                                         | exact el_ops
                                                                                         )))
      | ((with_reducible apply jmk_bool); (focus rfl); (focus rfl); (focus (with_reducible first
                                                                             | exact el_int
                                                                             | exact el_bool
                                                                             | exact el_byte
                                                                             | exact el_string
                                                                             | exact el_Errno
                                                                             | exact el_Op
                                                                             | exact el_ints
                                                                             | exact el_bools
                                                                             | exact el_ops
                                                                             )); (focus omega); (focus omega); (focus rfl))
      | ((with_reducible apply jmk_int); (focus rfl); (focus rfl); (focus (with_reducible first
                                                                            | exact el_int
                                                                            | exact el_bool
                                                                            | exact el_byte
                                                                            | exact el_string
                                                                            | exact el_Errno
                                                                            | exact el_Op
                                                                            | exact el_ints
                                                                            | exact el_bools
                                                                            | exact el_ops
                                                                            )); (focus omega); (focus omega); (focus rfl))
      | ((with_reducible apply js_map0); (focus rfl); (focus rfl); (focus rfl); (focus (with_reducible first
                                                                                         | exact el_int
                                                                                         | exact el_bool
                                                                                         | exact el_byte
                                                                                         | exact el_string
                                                                                         | exact el_Errno
                                                                                         | exact el_Op
                                                                                         | exact el_ints
                                                                                         | exact el_bools
                                                                                         | exact el_ops
                                                                                         )); (focus (first | omega | (simp only [List.length_map, List.length_range, List.length_append, List.length_cons, List.length_nil]; omega) | (simp only [List.length_map, List.length_range, List.length_append, List.length_cons, List.length_nil, List.length_take, List.length_drop]; omega))))
      | ((with_reducible apply js_map1); (focus rfl); (focus rfl); (focus rfl); (focus (with_reducible first
                                                                                         | exact el_int
                                                                                         | exact el_bool
                                                                                         | exact el_byte
                                                                                         | exact el_string
                                                                                         | exact el_Errno
                                                                                         | exact el_Op
                                                                                         | exact el_ints
                                                                                         | exact el_bools
                                                                                         | exact el_ops
                                                                                         )); (focus (first | omega | (simp only [List.length_map, List.length_range, List.length_append, List.length_cons, List.length_nil]; omega) | (simp only [List.length_map, List.length_range, List.length_append, List.length_cons, List.length_nil, List.length_take, List.length_drop]; omega))))
      | ((with_reducible apply js_map2); (focus rfl); (focus rfl); (focus rfl); (focus (with_reducible first
                                                                                         | exact el_int
                                                                                         | exact el_bool
                                                                                         | exact el_byte
                                                                                         | exact el_string
                                                                                         | exact el_Errno
                                                                                         | exact el_Op
                                                                                         | exact el_ints
                                                                                         | exact el_bools
                                                                                         | exact el_ops
                                                                                         )); (focus (first | omega | (simp only [List.length_map, List.length_range, List.length_append, List.length_cons, List.length_nil]; omega) | (simp only [List.length_map, List.length_range, List.length_append, List.length_cons, List.length_nil, List.length_take, List.length_drop]; omega))))
      | ((with_reducible apply js_map3); (focus rfl); (focus rfl); (focus rfl); (focus (with_reducible first
                                                                                         | exact el_int
                                                                                         | exact el_bool
                                                                                         | exact el_byte
                                                                                         | exact el_string
                                                                                         | exact el_Errno
                                                                                         | exact el_Op
                                                                                         | exact el_ints
                                                                                         | exact el_bools
                                                                                         | exact el_ops
                                                                                         )); (focus (first | omega | (simp only [List.length_map, List.length_range, List.length_append, List.length_cons, List.length_nil]; omega) | (simp only [List.length_map, List.length_range, List.length_append, List.length_cons, List.length_nil, List.length_take, List.length_drop]; omega))))
      | ((with_reducible apply js_one1); (focus rfl); (focus rfl); (focus rfl); (focus (with_reducible first
                                                                                         | exact el_int
                                                                                         | exact el_bool
                                                                                         | exact el_byte
                                                                                         | exact el_string
                                                                                         | exact el_Errno
                                                                                         | exact el_Op
                                                                                         | exact el_ints
                                                                                         | exact el_bools
                                                                                         | exact el_ops
                                                                                         )))
      | ((with_reducible apply js_one2); (focus rfl); (focus rfl); (focus rfl); (focus (with_reducible first
                                                                                         | exact el_int
                                                                                         | exact el_bool
                                                                                         | exact el_byte
                                                                                         | exact el_string
                                                                                         | exact el_Errno
                                                                                         | exact el_Op
                                                                                         | exact el_ints
                                                                                         | exact el_bools
                                                                                         | exact el_ops
                                                                                         )))
      | ((with_reducible apply js_one3); (focus rfl); (focus rfl); (focus rfl); (focus (with_reducible first
                                                                                         | exact el_int
                                                                                         | exact el_bool
                                                                                         | exact el_byte
                                                                                         | exact el_string
                                                                                         | exact el_Errno
                                                                                         | exact el_Op
                                                                                         | exact el_ints
                                                                                         | exact el_bools
                                                                                         | exact el_ops
                                                                                         )))
      | ((with_reducible apply japp1); (focus rfl); (focus rfl); (focus rfl); (focus (with_reducible first
                                                                                       | exact el_int
                                                                                       | exact el_bool
                                                                                       | exact el_byte
                                                                                       | exact el_string
                                                                                       | exact el_Errno
                                                                                       | exact el_Op
                                                                                       | exact el_ints
                                                                                       | exact el_bools
                                                                                       | exact el_ops
                                                                                       )); (focus rfl); (focus rfl); (focus rfl); (focus (first | omega | (simp only [List.length_map, List.length_range, List.length_append, List.length_cons, List.length_nil]; omega) | (simp only [List.length_map, List.length_range, List.length_append, List.length_cons, List.length_nil, List.length_take, List.length_drop]; omega))); (focus (first | omega | (simp only [List.length_map, List.length_range, List.length_append, List.length_cons, List.length_nil]; omega) | (simp only [List.length_map, List.length_range, List.length_append, List.length_cons, List.length_nil, List.length_take, List.length_drop]; omega))))
      | ((with_reducible apply jqbor); (focus rfl); (focus rfl); (focus exact cal_Truths1); (focus exact hT1); (focus exact ⟨bor_ptr (List.mem_cons_of_mem _ List.mem_cons_self) ⟨bord_bools (List.mem_cons_of_mem _ (List.mem_cons_of_mem _ List.mem_cons_self)) d.len (by omega), trivial⟩, bor_ptr List.mem_cons_self ⟨bord_int' rfl, trivial⟩, trivial⟩); (focus rfl))
      | ((with_reducible apply jqbor); (focus rfl); (focus rfl); (focus exact cal_Truths2); (focus exact hT2); (focus exact ⟨bor_ptr (List.mem_cons_of_mem _ List.mem_cons_self) ⟨bord_bools (List.mem_cons_of_mem _ (List.mem_cons_of_mem _ List.mem_cons_self)) d.len (by omega), trivial⟩, bor_ptr (List.mem_cons_of_mem _ (List.mem_cons_of_mem _ (List.mem_cons_of_mem _ List.mem_cons_self))) ⟨bord_d _ _, trivial⟩, bor_ptr List.mem_cons_self ⟨bord_int' rfl, trivial⟩, trivial⟩); (focus rfl))
      | refine stp ?_
      | refine two ?_ ?_
      | (refine imp fun hc => ?_) <;> try (first | contradiction | (exfalso; omega))
      | refine all fun v_ => ?_)
    simp only [Int.add_sub_cancel, Int.toNat_natCast, Nat.mul_one, and1 hcd (show c / 2 ^ rank l m ≤ 9223372036854775807 by omega)]
    try simp only [Int.toNat_natCast, Nat.mul_one]
    refine ⟨(m, out.set m (decide (c / 2 ^ rank l m % 2 = 1)), v_), ⟨by dsimp only; omega, ?_⟩, by dsimp only; omega, vle (.cons_cons _ (.cons _ (List.Sublist.refl _))) ?_⟩
    rotate_left
    · repeat (first
        | exact Env.le_nil _
        | refine Env.le_cons (AV.le_refl _) ?_
        | refine Env.le_cons (AV.le_int rfl (by first | rfl | omega | (dsimp only; omega))) ?_)
    refine d.next hi ?_
    rw [ht, if_neg (by omega), if_neg (by omega), if_neg (by omega), if_neg (by omega), if_neg (by omega), if_neg (by omega)]; rfl
end Go.Proofs.YtnhbcnfkjfigoaaDoor
