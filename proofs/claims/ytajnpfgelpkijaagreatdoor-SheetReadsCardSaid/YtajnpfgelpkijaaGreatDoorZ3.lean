/- A bundle of this claim's own texts: T1 T2 T3 T4 Sc Sd. -/
import Derived.RegionTactic
import Derived.Test.YtajnpfgelpkijaaGreatDoorZ1
import Derived.Test.YtajnpfgelpkijaaGreatDoorZ2
set_option linter.unusedVariables false
set_option linter.unusedSimpArgs false
set_option maxRecDepth 100000
set_option maxHeartbeats 4000000
namespace Go.Proofs.YtajnpfgelpkijaaGreatDoor
open Go Go.Av Go.Sp

theorem cal_PartsOf : Cal Tryz.prog 155 := Cal.of Tryz.func155 (by kernel_rfl) (by kernel_rfl)
theorem cal_Parts : Cal Tryz.prog 159 := Cal.of Tryz.func159 (by kernel_rfl) (by kernel_rfl)
theorem cal_endOf : Cal Tryz.prog 123 := Cal.of Tryz.func123 (by kernel_rfl) (by kernel_rfl)

theorem PartsOf (G : List (Nat × List D)) (x : Int) : ACr Tryz.prog G 155 [.int x] (.tup [.int (partsOf x).1, .int (partsOf x).2]) := by
 refine AC_of (ts := [2, 3]) 26 Tryz.func155 rfl rfl rfl (by simp) fun W I => ?_
 repeat' (first
  | refine cag cal_String (String GP b u q s hpos hb3) ?_
  | exact True.intro
  | refine stp ?_
  | refine two ?_ ?_
  | (refine imp fun hc => ?_) <;> try exact cx hc
  | refine all fun v_ => ?_)
 all_goals ((with_reducible apply rq2); rfl; rfl; rfl)
 all_goals (refine ret_eq ?_; simp [partsOf, *])

theorem partsT_at (x : Int) (h1 : ¬ x < 1) (h2 : ¬ 18 < x) : partsT[x.toNat]? = some (.i .i64 (partsOf x).1) ∧ (partsOf x).2 = 0 := by
 have : x = 1 ∨ x = 2 ∨ x = 3 ∨ x = 4 ∨ x = 5 ∨ x = 6 ∨ x = 7 ∨ x = 8 ∨ x = 9 ∨ x = 10 ∨ x = 11 ∨ x = 12 ∨ x = 13 ∨ x = 14 ∨ x = 15 ∨ x = 16 ∨ x = 17 ∨ x = 18 := by omega
 rcases this with h | h | h | h | h | h | h | h | h | h | h | h | h | h | h | h | h | h <;> subst h <;> exact ⟨rfl, rfl⟩

theorem Parts (x : Int) : ACr Tryz.prog GP 159 [.int x] (.tup [.int (partsOf x).1, .int (partsOf x).2]) := by
 refine AC_of (ts := [2, 3]) 13 Tryz.func159 rfl rfl rfl (by simp) fun W I => ?_
 repeat' (first
  | refine cag cal_String (String GP b u q s hpos hb3) ?_
  | exact True.intro
  | refine stp ?_
  | refine two ?_ ?_
  | (refine imp fun hc => ?_) <;> try exact cx hc
  | refine all fun v_ => ?_)
 · ((with_reducible apply rq2); rfl; rfl; rfl)
   refine ret_eq ?_
   rw [partsOf_no x (by omega)]
 · ((with_reducible apply rq2); rfl; rfl; rfl)
   refine ret_eq ?_
   rw [partsOf_no x (by omega)]
 · obtain ⟨h1, h2⟩ := partsT_at x (by omega) (by omega)
   refine jp (pure_load_at (c := .i .i64 (partsOf x).1) rfl rfl (by rw [List.getElem?_drop, Nat.mul_one]; exact h1)) rfl ?_
   repeat' (first
    | refine cag cal_String (String GP b u q s hpos hb3) ?_
    | exact True.intro
    | refine stp ?_
    | refine two ?_ ?_
    | (refine imp fun hc => ?_) <;> try exact cx hc
    | refine all fun v_ => ?_)
   ((with_reducible apply rq2); rfl; rfl; rfl)
   refine ret_eq ?_
   rw [h2]; rfl

theorem endOf (l : List Fo) (a : Int) (G : List (Nat × List D)) (h0 : 0 ≤ a) (ha : a ≤ 140737488355328) : ACr Tryz.prog G 123 [.d (opsD l), .int a] (.tup [.int (Sp.endOf l a).1, .int (Sp.endOf l a).2]) := by
 refine AC_of (ts := [4, 5]) 37 Tryz.func123 rfl rfl rfl (by simp) fun W I => ?_
 refine jfact (t := 0) rfl fun hl => ?_
 repeat' (first
  | refine ca cal_PartsOf (PartsOf _ _) ?_
  | exact True.intro
  | refine stp ?_
  | refine two ?_ ?_
  | (refine imp fun hc => ?_) <;> try exact cx hc
  | refine all fun v_ => ?_)
 refine J_loop (X := Nat × Int) (fun p => [(0, .d (opsD l)), (6, .int p.2), (7, .int p.1)]) (fun _ => []) (fun p => a ≤ p.1 ∧ (p.1 ≤ l.length ∨ p.1 = a) ∧ 0 < p.2 ∧ p.2 ≤ 1 + (p.1 : Int) + (p.1 : Int) ∧ Sp.endOf l a = scan (l.drop p.1) p.2 p.1) (fun p => l.length - p.1) (a.toNat, 1) ?_ ?_ rfl ?_
 · refine ⟨by omega, by omega, by omega, by omega, ?_⟩
   simp only [Sp.endOf]; rw [Int.toNat_of_nonneg h0]
 · exact leD
 rintro ⟨i, w⟩ ⟨h1, h2, h3, h4, h5⟩
 dsimp only at h1 h2 h3 h4 h5 ⊢
 by_cases hi : i < l.length
 · have hd : l.drop i = l[i] :: l.drop (i + 1) := List.drop_eq_getElem_cons hi
   have hp := partsOf_le l[i].kind
   rw [hd, scan_cons] at h5
   repeat' (first
    | refine ca cal_PartsOf (PartsOf _ _) ?_
    | exact True.intro
    | refine stp ?_
    | refine two ?_ ?_
    | (refine imp fun hc => ?_) <;> try exact cx hc
    | refine all fun v_ => ?_)
   · ((with_reducible apply rq2); rfl; rfl; rfl)
     refine ret_eq ?_
     rw [h5, if_pos hc]
   · ((with_reducible apply rq2); rfl; rfl; rfl)
     refine ret_eq ?_
     rw [h5, if_neg (by assumption), if_pos hc]
   · refine ⟨(i + 1, w + (partsOf l[i].kind).1 - 1), ⟨by omega, by omega, by dsimp only; omega, by dsimp only; omega, ?_⟩, by dsimp only; omega, ?_, rfl⟩
     · rw [h5, if_neg (by assumption), if_neg hc]; rfl
     · exact leD
 · repeat' (first
    | refine ca cal_PartsOf (PartsOf _ _) ?_
    | exact True.intro
    | refine stp ?_
    | refine two ?_ ?_
    | (refine imp fun hc => ?_) <;> try exact cx hc
    | refine all fun v_ => ?_)
   ((with_reducible apply rq2); rfl; rfl; rfl)
   refine ret_eq ?_
   rw [h5, List.drop_eq_nil_of_le (by omega)]; rfl

theorem cal_skip : Cal Tryz.prog 128 := Cal.of Tryz.func128 (by kernel_rfl) (by kernel_rfl)
theorem cal_Ends1 : Cal Tryz.prog 127 := Cal.of Tryz.func127 (by kernel_rfl) (by kernel_rfl)
theorem cal_Ends : Cal Tryz.prog 91 := Cal.of Tryz.func91 (by kernel_rfl) (by kernel_rfl)

theorem ends1_idle (p q : Addr) (w : World) :
 CallsD Tryz.prog 127 #[.pointer (some p), .pointer (some q)] .returning w fun e u' w' => e = .returned (.tuple #[]) ∧ u' = .returning ∧ w' = w := by
 refine callsD_of_wpS Tryz.func127 rfl fun c₀ cs hu => ?_
 apply wpS_seq
 apply wpS_region
 simp [wpOpsS, go_sem, recoverD, hu, Tryz.ntmps127, Exit.thenS]
 apply wpS_seq
 apply wpS_region
 simp [wpOpsS, go_sem, Exit.thenS]
 refine wpS_cond (t := false) (by simp [Act.eval, Array.replicate]) ?_
 simp only [Bool.false_eq_true, if_false]
 refine wpS_of_wp (wp_skip ?_)
 cases c₀
 simp_all [bodyPostS, results, Tryz.results127]

theorem ends1_pan (b c : Nat) (hbc : b ≠ c) (x y : Value) (n : Int) (w : World) (hb : w.heap[b]? = some (.cells #[x] 43 (0, 0))) (hc : w.heap[c]? = some (.cells #[y] 30 (0, 0))) :
 CallsD Tryz.prog 127 #[.pointer (some ⟨b, 0, none⟩), .pointer (some ⟨c, 0, none⟩)] (.panicking [{ v := .iface 30 (.int .i64 n), recovered := false }]) w fun e u' w' =>
  e = .returned (.tuple #[]) ∧ u' = .panicking [{ v := .iface 30 (.int .i64 n), recovered := true }] ∧ w' = ((w.setCell ⟨b, 0, none⟩ (.slice none 0 0)).setCell ⟨c, 0, none⟩ (.int .i64 n)).drew := by
 refine callsD_of_wpS Tryz.func127 rfl fun c₀ cs hu => ?_
 apply wpS_seq
 apply wpS_region
 simp [wpOpsS, go_sem, recoverD, hu, Tryz.ntmps127, Exit.thenS]
 apply wpS_seq
 apply wpS_region
 simp [wpOpsS, go_sem, Exit.thenS]
 refine wpS_cond (t := true) (by simp [Act.eval, Array.replicate]) ?_
 simp only [if_true]
 refine wpS_of_wp ?_
 have hcb : w.cell? ⟨b, 0, none⟩ = some x := by rw [cell_of_row w b 0 _ _ _ hb]; rfl
 have hcc : w.cell? ⟨c, 0, none⟩ = some y := by rw [cell_of_row w c 0 _ _ _ hc]; rfl
 have fb : w.frozen? ⟨b, 0, none⟩ = false := by simp [World.frozen?, hb]
 have fc : w.frozen? ⟨c, 0, none⟩ = false := by simp [World.frozen?, hc]
 have hta : ∀ w : World, (Instr.typeAssert (.iface 30 (.int .i64 n)) 20 30 false).run Tryz.prog w = .ok (.int .i64 n) w := fun w => by
  simp [Instr.typeAssert, run_underlying Tryz.underlying30]
 go_region
 all_goals
  cases c₀
  simp_all [bodyPostS, results, Tryz.results127]

theorem ends1_cd_idle (p q : Addr) (h : H) : CD Tryz.prog 127 #[.pointer (some p), .pointer (some q)] .returning h h .returning :=
 fun _ _ w hok => (ends1_idle p q w).mono fun _ _ _ ⟨h1, h2, h3⟩ => ⟨h1, h2, h3 ▸ hok, fun _ _ => by rw [h3]⟩
theorem ends1_cd_pan (b c : Nat) (x y : AV) (n : Int) : CD Tryz.prog 127 #[.pointer (some ⟨b, 0, none⟩), .pointer (some ⟨c, 0, none⟩)] (.panicking [{ v := .iface 30 (.int .i64 n), recovered := false }])
 [.cells c 30 [y], .cells b 43 [x]] [.cells c 30 [.int n], .cells b 43 [.val (.slice none 0 0)]] (.panicking [{ v := .iface 30 (.int .i64 n), recovered := true }]) := by
 intro cx I w hok
 obtain ⟨u1, d1⟩ := Ent.cells_one (hok.ent (.cells b 43 [x]) (by simp))
 obtain ⟨u2, d2⟩ := Ent.cells_one (hok.ent (.cells c 30 [y]) (by simp))
 have hbc : b ≠ c := by
  have := hok.nd
  simp [blks, Ent.blk] at this
  exact fun e => this e.symm
 refine (ends1_pan b c hbc u1 u2 n w d1 d2).mono ?_
 rintro e u' w' ⟨h1, h2, rfl⟩
 obtain ⟨k1, k2⟩ := Ok.set1 (h1 := [.cells c 30 [y]]) (h2 := []) (v := .slice none 0 0) hok
 obtain ⟨k3, k4⟩ := Ok.set1 (h1 := []) (v := .int .i64 n) k1
 exact ⟨h1, h2, k3.same (Same.drewN 1), fun z hz => (k4 z hz).trans (k2 z hz)⟩

def skipQ (l : List Fo) (b b' i : Nat) (es : List Int) (e : AE) (h : H) : Prop :=
 ∃ es' : List Int, es'.length = l.length ∧ h = [.cells b 196 [.d (opsD l), .val (.slice (some ⟨b', 0, none⟩) l.length l.length)], .cells b' 3 (es'.map AV.int)] ∧
  ((∃ n : Nat, e = .ret (.int n) ∧ Sp.endOf l i = ((n : Int), 0) ∧ (∀ j, i ≤ j → j < n → (Sp.endOf l j).2 = 0 ∧ es'[j]? = some (Sp.endOf l j).1) ∧ ∀ j, (j < i ∨ n ≤ j) → es'[j]? = es[j]?) ∨
   ((Sp.endOf l i).2 ≠ 0 ∧ e = .pan [{ v := .iface 30 (.int .i64 (Sp.endOf l i).2), recovered := false }]))

theorem skip (l : List Fo) (b b' : Nat) (hl : l.length ≤ 60) : ∀ (m i : Nat) (es : List Int), l.length ≤ i + m → es.length = l.length →
 AC Tryz.prog GP 128 [.val (.pointer (some ⟨b, 0, none⟩)), .int i] [.cells b 196 [.d (opsD l), .val (.slice (some ⟨b', 0, none⟩) l.length l.length)], .cells b' 3 (es.map AV.int)] (skipQ l b b' i es) := by
 have done : ∀ (i : Nat) (es : List Int), es.length = l.length → (l.length : Int) ≤ i → skipQ l b b' i es (.pan [{ v := .iface 30 (.int .i64 4), recovered := false }]) [.cells b 196 [.d (opsD l), .val (.slice (some ⟨b', 0, none⟩) l.length l.length)], .cells b' 3 (es.map AV.int)] := fun i es hes hi =>
  ⟨es, hes, rfl, .inr ⟨by rw [endOf_none l i (by omega)]; decide, by rw [endOf_none l i (by omega)]⟩⟩
 intro m
 induction m with
 | zero =>
   intro i es hm hes
   refine AC_of (ts := [4]) 49 Tryz.func128 rfl rfl rfl (by simp) fun W I => ?_
   repeat' (first
    | refine ca cal_Parts (Parts _) ?_
    | exact True.intro
    | refine stp ?_
    | refine two ?_ ?_
    | (refine imp fun hc => ?_) <;> try exact cx hc
    | refine all fun v_ => ?_)
   exact done i es hes (by assumption)
 | succ m ih =>
   intro i es hm hes
   refine AC_of (ts := [4]) 49 Tryz.func128 rfl rfl rfl (by simp) fun W I => ?_
   repeat' (first
    | refine ca cal_Parts (Parts _) ?_
    | exact True.intro
    | refine stp ?_
    | refine two ?_ ?_
    | (refine imp fun hc => ?_) <;> try exact cx hc
    | refine all fun v_ => ?_)
   · exact done i es hes (by assumption)
   · have he := endOf_at l i (by omega)
     rw [if_pos hc] at he
     exact ⟨es, hes, rfl, .inr ⟨by rw [he]; exact hc, by rw [he]⟩⟩
   have hi : i < l.length := by omega
   have he := endOf_at l i hi
   have hp := partsOf_le l[i].kind
   rw [if_neg hc] at he
   generalize hn : (partsOf l[i].kind).1 = n at he hp ⊢
   refine J_loop (X := Nat × Nat × List Int) (fun y => [(0, .val (.pointer (some ⟨b, 0, none⟩))), (1, .int i), (34, .int n), (35, .int y.1), (7, .int y.2.1)])
    (fun y => [.cells b 196 [.d (opsD l), .val (.slice (some ⟨b', 0, none⟩) l.length l.length)], .cells b' 3 (y.2.2.map AV.int)])
    (fun y => (y.1 : Int) ≤ n ∧ i < y.2.1 ∧ y.2.1 ≤ l.length ∧ y.2.2.length = l.length ∧ Sp.endOf l i = (if n - y.1 = 0 then ((y.2.1 : Int), 0) else scan (l.drop y.2.1) (n - y.1) y.2.1) ∧
     (∀ j, i < j → j < y.2.1 → (Sp.endOf l j).2 = 0 ∧ y.2.2[j]? = some (Sp.endOf l j).1) ∧ ∀ j, (j ≤ i ∨ y.2.1 ≤ j) → y.2.2[j]? = es[j]?)
    (fun y => n.toNat - y.1) (0, i + 1, es) ?_ ?_ rfl ?_
   · refine ⟨by omega, by dsimp only; omega, by dsimp only; omega, hes, ?_, fun j h1 h2 => by dsimp only at h2; omega, fun _ _ => rfl⟩
     rw [he]
     have : (1 : Int) + n - 1 = n - ((0 : Nat) : Int) := by omega
     dsimp only
     rw [this]
     rfl
   · exact leD
   rintro ⟨j, e, fs⟩ ⟨h1, h2, h3, h4, h5, h6, h7⟩
   dsimp only at h1 h2 h3 h4 h5 h6 h7 ⊢
   repeat' (first
    | refine ca cal_Parts (Parts _) ?_
    | exact True.intro
    | refine stp ?_
    | refine two ?_ ?_
    | (refine imp fun hc => ?_) <;> try exact cx hc
    | refine all fun v_ => ?_)
   · refine callA rfl cal_skip (ih e fs (by omega) h4) rfl (fun r h' hq => ?_) (fun ch h' hq => ?_)
     · obtain ⟨es', k1, rfl, ⟨n', k2, k3, k4, k5⟩ | ⟨_, k2⟩⟩ := hq
       · cases k2
         repeat' (first
          | refine ca cal_Parts (Parts _) ?_
          | exact True.intro
          | refine stp ?_
          | refine two ?_ ?_
          | (refine imp fun hc => ?_) <;> try exact cx hc
          | refine all fun v_ => ?_)
         have hb := endOf_bound l e (by rw [k3])
         rw [k3] at hb
         refine ⟨(j + 1, n', es'), ⟨by dsimp only; omega, by dsimp only at hb ⊢; omega, by dsimp only at hb ⊢; omega, k1, ?_, ?_, ?_⟩, by dsimp only; omega, ?_, rfl⟩
         · rw [h5, if_neg (by omega)]
           dsimp only
           by_cases hlast : n - ((j + 1 : Nat) : Int) = 0
           · rw [if_pos hlast]
             have : n - (j : Int) = 1 := by omega
             rw [this]
             have := k3
             unfold Sp.endOf at this
             rwa [Int.toNat_natCast] at this
           · rw [if_neg hlast]
             have : n - (j : Int) = (n - ((j + 1 : Nat) : Int)) + 1 := by omega
             rw [this, scan_next l e _ (by omega), k3]
             rfl
         · intro p hp1 hp2
           dsimp only at hp2 ⊢
           by_cases hpe : e ≤ p
           · exact k4 p hpe hp2
           · rw [k5 p (.inl (by omega))]
             exact h6 p hp1 (by omega)
         · intro p hp1
           dsimp only at hp1 ⊢
           dsimp only at hb
           rw [k5 p (by omega)]
           exact h7 p (by omega)
         · exact leD
       · cases k2
     · obtain ⟨es', k1, rfl, ⟨n', k2, k3, k4⟩ | ⟨k3, k2⟩⟩ := hq
       · cases k2
       · cases k2
         repeat' (refine stp ?_)
         refine ⟨es', k1, rfl, .inr ?_⟩
         have : (Sp.endOf l i).2 = (Sp.endOf l e).2 := by
          rw [h5, if_neg (by omega)]
          by_cases hlast : n - (j : Int) = 1
          · rw [hlast]; unfold Sp.endOf; rw [Int.toNat_natCast]
          · have h : n - (j : Int) = (n - ((j + 1 : Nat) : Int)) + 1 := by omega
            rw [h, scan_next l e _ (by omega), if_pos k3]
         rw [this]
         exact ⟨k3, rfl⟩
   · repeat' (first
      | refine ca cal_Parts (Parts _) ?_
      | exact True.intro
      | refine stp ?_
      | refine two ?_ ?_
      | (refine imp fun hc => ?_) <;> try exact cx hc
      | refine all fun v_ => ?_)
     refine js_int (h1 := [_]) rfl rfl el_int rfl (by omega) ?_
     simp only [List.cons_append, List.nil_append, Int.toNat_natCast, Nat.mul_one]
     repeat' (first
      | refine ca cal_Parts (Parts _) ?_
      | exact True.intro
      | refine stp ?_
      | refine two ?_ ?_
      | (refine imp fun hc => ?_) <;> try exact cx hc
      | refine all fun v_ => ?_)
     ((with_reducible apply rq1); rfl; rfl)
     have hz : n - (j : Int) = 0 := by omega
     rw [if_pos hz] at h5
     refine ⟨fs.set i e, by simpa using h4, rfl, .inl ⟨e, rfl, h5, fun p hp1 hp2 => ?_, fun p hp1 => ?_⟩⟩
     · by_cases hpi : p = i
       · subst hpi
         rw [h5]
         exact ⟨rfl, by rw [List.getElem?_set_self (by omega)]⟩
       · rw [List.getElem?_set_ne (by omega)]
         exact h6 p (by omega) hp2
     · rw [List.getElem?_set_ne (by omega)]
       exact h7 p (by omega)

theorem Ends (l : List Fo) : ACr Tryz.prog GP 91 [.d (opsD l)] (.tup [.d (intsD (endsOf l).1), .int (endsOf l).2]) := by
 refine AC_ofD 25 Tryz.func91 rfl rfl (by simp) fun W I => ?_
 apply J2_seq1
 repeat' (first
  | exact True.intro
  | refine stp ?_
  | refine two ?_ ?_
  | (refine imp fun hc => ?_) <;> try exact cx hc
  | refine all fun v_ => ?_)
 refine jalloc1 el_ints rfl rfl fun b2 => ?_
 refine jalloc1 el_Errno rfl rfl fun b3 => ?_
 repeat' (first
  | exact True.intro
  | refine stp ?_
  | refine two ?_ ?_
  | (refine imp fun hc => ?_) <;> try exact cx hc
  | refine all fun v_ => ?_)
 apply tq2_normal
 apply J2_seq1
 repeat' (first
  | exact True.intro
  | refine stp ?_
  | refine two ?_ ?_
  | (refine imp fun hc => ?_) <;> try exact cx hc
  | refine all fun v_ => ?_)
 · refine js_one (h1 := [_]) rfl rfl rfl el_ints rfl ?_
   simp only [List.cons_append, List.nil_append]
   refine js_one (h1 := []) rfl rfl rfl el_Errno rfl ?_
   simp only [List.nil_append]
   repeat' (first
    | exact True.intro
    | refine stp ?_
    | refine two ?_ ?_
    | (refine imp fun hc => ?_) <;> try exact cx hc
    | refine all fun v_ => ?_)
   apply tq2_ret
   refine LQ_cells2 rfl (by unfold isAggB; kernel_rfl) (by unfold isAggB; kernel_rfl) rfl rfl (List.mem_cons_of_mem _ List.mem_cons_self) List.mem_cons_self rfl (List.nil_sublist _) (AV.le_nil 1 8) (AV.le_refl _) ?_
   refine ret_eq ?_
   rw [endsOf, if_pos (by omega)]; rfl
 apply tq2_normal
 dsimp only
 refine J2_seq (J2_defer (vs := [.pointer (some ⟨b2, 0, none⟩), .pointer (some ⟨b3, 0, none⟩)]) rfl rfl ?_)
 apply tq2_normal
 dsimp only
 apply J2_seq1
 repeat' (first
  | exact True.intro
  | refine stp ?_
  | refine two ?_ ?_
  | (refine imp fun hc => ?_) <;> try exact cx hc
  | refine all fun v_ => ?_)
 refine jmake_int rfl rfl el_int (by omega) (by omega) rfl fun b' => ?_
 repeat' (first
  | exact True.intro
  | refine stp ?_
  | refine two ?_ ?_
  | (refine imp fun hc => ?_) <;> try exact cx hc
  | refine all fun v_ => ?_)
 refine jbox rfl rfl rfl fun b => ?_
 repeat' (first
  | exact True.intro
  | refine stp ?_
  | refine two ?_ ?_
  | (refine imp fun hc => ?_) <;> try exact cx hc
  | refine all fun v_ => ?_)
 apply tq2_normal
 dsimp only
 apply J2_seq1
 repeat' (first
  | exact True.intro
  | refine stp ?_
  | refine two ?_ ?_
  | (refine imp fun hc => ?_) <;> try exact cx hc
  | refine all fun v_ => ?_)
 have hk : AC Tryz.prog GP 128 [.val (.pointer (some ⟨b, 0, none⟩)), .int 0] [.cells b 196 [.d (opsD l), .val (.slice (some ⟨b', 0, none⟩) l.length l.length)], .cells b' 3 ((List.replicate l.length 0).map AV.int)] (skipQ l b b' 0 (List.replicate l.length 0)) :=
  skip l b b' (by omega) l.length 0 (List.replicate l.length 0) (by omega) (by simp)
 have pan : ∀ (n : Int) (ρ : Env) (es : List Int), n = (endsOf l).2 → (endsOf l).1 = [] →
  LQ ⟨Tryz.prog, ⟨W, I, [], GP⟩, 25, [{ target := .fn (.func 127) #[.pointer (some ⟨b2, 0, none⟩), .pointer (some ⟨b3, 0, none⟩)], args := #[] }]⟩ Tryz.f91
   (ACpost GP W I [] fun e h => e = .ret (.tup [.d (intsD (endsOf l).1), .int (endsOf l).2]) ∧ h = []) (some (.panicking [{ v := .iface 30 (.int .i64 n), recovered := false }]))
   ((2, .val (.pointer (some ⟨b2, 0, none⟩))) :: (3, .val (.pointer (some ⟨b3, 0, none⟩))) :: ρ)
   [.cells b 196 [.d (opsD l), .val (.slice (some ⟨b', 0, none⟩) l.length l.length)], .cells b' 3 (es.map AV.int), .cells b3 30 [.val (.int .i64 0)], .cells b2 43 [.val (.slice none 0 0)]]
   [{ target := .fn (.func 127) #[.pointer (some ⟨b2, 0, none⟩), .pointer (some ⟨b3, 0, none⟩)], args := #[] }] := by
  intro n ρ es h1 h2
  refine LQ_vs (VS.drop (h' := [.cells b3 30 [.val (.int .i64 0)], .cells b2 43 [.val (.slice none 0 0)]]) (.cons _ (.cons _ (.refl _)))) ?_
  refine LQ_defer (by simp) cal_Ends1 (ends1_cd_pan b2 b3 _ _ n) (m := .returning) rfl ?_
  refine LQ_cells2 (h0 := []) (y1 := .d (intsD [])) rfl (by unfold isAggB; kernel_rfl) (by unfold isAggB; kernel_rfl) rfl rfl (List.mem_cons_of_mem _ List.mem_cons_self) List.mem_cons_self rfl (List.nil_sublist _) (AV.le_nil 1 8) (AV.le_refl _) ?_
  refine ret_eq ?_
  rw [h1, h2]
 have h60 : ¬ 60 < l.length := by omega
 refine callw (hc := [_, _]) rfl cal_skip rfl hk rfl (fun r h' hq => ?_) (fun ch h' hq => ?_)
 · obtain ⟨es', k1, rfl, ⟨n', k2, k3, k4, k5⟩ | ⟨_, k2⟩⟩ := hq
   · cases k2
     have hb := endOf_bound l 0 (by rw [show ((0 : Nat) : Int) = 0 from rfl]; rw [show ((0 : Nat) : Int) = 0 from rfl] at k3; rw [k3])
     rw [show ((0 : Nat) : Int) = 0 from rfl] at k3 hb
     rw [k3] at hb
     simp only [List.cons_append, List.nil_append]
     repeat' (first
      | exact True.intro
      | refine stp ?_
      | refine two ?_ ?_
      | (refine imp fun hc => ?_) <;> try exact cx hc
      | refine all fun v_ => ?_)
     · apply tq2_panic
       dsimp only at hb
       have h3 : (endsOf l) = ([], 3) := by rw [endsOf, if_neg h60, k3, if_neg (by simp), if_pos (by dsimp only; omega)]
       refine LQ_vs (VS.of_le ?_) (pan _ [] es' ?_ ?_)
       · exact leD
       · rw [h3]
       · rw [h3]
     · have hn : n' = l.length := by omega
       have he : es' = (List.range l.length).map fun i : Nat => (Sp.endOf l i).1 := by
        apply List.ext_getElem?
        intro j
        by_cases hj : j < l.length
        · rw [(k4 j (Nat.zero_le _) (by omega)).2, List.getElem?_map, List.getElem?_range hj]; rfl
        · rw [List.getElem?_eq_none (by omega), List.getElem?_eq_none (by simp; omega)]
       have h3 : (endsOf l) = (es', 0) := by rw [endsOf, if_neg h60, k3, if_neg (by simp), if_neg (by dsimp only; omega), he]
       apply tq2_normal
       dsimp only
       apply J2_of
       repeat' (first
        | exact True.intro
        | refine stp ?_
        | refine two ?_ ?_
        | (refine imp fun hc => ?_) <;> try exact cx hc
        | refine all fun v_ => ?_)
       refine JL_vs (VS.freezeCells (t := 24) (h1 := [_]) (rows := es'.map intC) (sz := 1) (eb := 8) (by decide) rfl rfl (ints_flat es') (by simp [k1]) (by simp [intC]) (by omega) (by simp only [maxLen]; omega)) ?_
       simp only [List.cons_append, List.nil_append]
       refine js_one (h1 := [_, _]) rfl rfl rfl el_ints rfl ?_
       simp only [List.cons_append, List.nil_append]
       refine js_one (h1 := [_]) rfl rfl rfl el_Errno rfl ?_
       simp only [List.cons_append, List.nil_append]
       repeat' (first
        | exact True.intro
        | refine stp ?_
        | refine two ?_ ?_
        | (refine imp fun hc => ?_) <;> try exact cx hc
        | refine all fun v_ => ?_)
       refine LQ_defer (by simp) cal_Ends1 (ends1_cd_idle _ _ _) (m := .returning) rfl ?_
       refine LQ_cells2 (h0 := []) rfl (by unfold isAggB; kernel_rfl) (by unfold isAggB; kernel_rfl) rfl rfl (List.mem_cons_of_mem _ (List.mem_cons_of_mem _ List.mem_cons_self)) (List.mem_cons_of_mem _ List.mem_cons_self) rfl (List.nil_sublist _) (AV.le_refl _) (AV.le_refl _) ?_
       refine ret_eq ?_
       rw [h3]
   · cases k2
 · obtain ⟨es', k1, rfl, ⟨n', k2, k3, k4⟩ | ⟨k3, k2⟩⟩ := hq
   · cases k2
   · cases k2
     have k3 : (Sp.endOf l 0).2 ≠ 0 := k3
     repeat' (refine stp ?_)
     apply tq2_panic
     refine LQ_vs (VS.of_le ?_) (pan _ [] es' ?_ ?_)
     · exact leD
     · rw [endsOf, if_neg h60, if_pos k3]; rfl
     · rw [endsOf, if_neg h60, if_pos k3]

theorem cal_EndsOf : Cal Tryz.prog 83 := Cal.of Tryz.func83 (by kernel_rfl) (by kernel_rfl)

theorem armXT3_1 {p q : Prop} (hp : p) (h : p → q := by
 apply cmp; (focus (first
  | ((with_reducible apply call0); (focus rfl); (focus exact cal_endOf); (focus exact endOf _ _ _ (by omega) (by omega)); (focus rfl))
  | ((with_reducible apply je_call0); (focus rfl); (focus (decide +kernel)); (focus rfl); (focus exact cal_endOf); (focus exact endOf _ _ _ (by omega) (by omega)); (focus rfl))
  ))
 exact fun h => h) : q := h hp
theorem EndsOf (G : List (Nat × List D)) (l : List Fo) : ACr Tryz.prog G 83 [.d (opsD l)] (.tup [.d (intsD (endsOf l).1), .int (endsOf l).2]) := by
 refine AC_ofV (ts := [2, 3]) 42 Tryz.func83 rfl rfl rfl (by simp) fun W I => ?_
 repeat' (first
  | refine armXT3_1 ?_
  | exact True.intro
  | refine stp ?_
  | refine two ?_ ?_
  | (refine imp fun hc => ?_) <;> try exact cx hc
  | refine all fun v_ => ?_)
 · refine retv (vnil (t := 2) 1 8 rfl) ?_
   ((with_reducible apply rq2); rfl; rfl; rfl)
   refine ret_eq ?_
   rw [endsOf, if_pos (by omega)]; rfl
 · refine retv (vnil (t := 2) 1 8 rfl) ?_
   ((with_reducible apply rq2); rfl; rfl; rfl)
   refine ret_eq ?_
   rw [endsOf, if_neg (by omega), if_pos (by assumption)]; rfl
 · refine retv (vnil (t := 2) 1 8 rfl) ?_
   ((with_reducible apply rq2); rfl; rfl; rfl)
   refine ret_eq ?_
   rw [endsOf, if_neg (by omega), if_neg (by assumption), if_pos (by assumption)]; rfl
 have h60 : ¬ 60 < l.length := by omega
 refine jrow (E := 3) (sz := 1) intC ?_
 refine J_loop (X := Nat × Value) (fun y => [(0, .d (opsD l)), (6, .val y.2), (7, .int y.1)]) (fun y => [rowE y.2 3 1 intC ((List.range y.1).map fun i : Nat => (Sp.endOf l i).1)]) (fun y => y.1 ≤ l.length) (fun y => l.length - y.1) (0, .slice none 0 0) (Nat.zero_le _) ?_ rfl ?_
 · exact leD
 rintro ⟨i, v⟩ h1
 dsimp only at h1 ⊢
 have hlen : ((List.range i).map fun i : Nat => (Sp.endOf l i).1).length = i := by simp
 repeat' (first
  | refine armXT3_1 ?_
  | exact True.intro
  | refine stp ?_
  | refine two ?_ ?_
  | (refine imp fun hc => ?_) <;> try exact cx hc
  | refine all fun v_ => ?_)
 · refine ⟨(i + 1, v_), by dsimp only; omega, by dsimp only; omega, ?_, ?_⟩
   · exact leD
   · dsimp only
     rw [List.range_succ, List.map_append]; rfl
 · refine retv (vfreeze (t := 2) (eb := 8) rfl rfl (fun x => rfl) (by rw [hlen]; omega)) ?_
   ((with_reducible apply rq2); rfl; rfl; rfl)
   refine ret_eq ?_
   have : i = l.length := by omega
   rw [endsOf, if_neg h60, if_neg (by assumption), if_neg (by assumption), this]

theorem cal_Ops : Cal Tryz.prog 187 := Cal.of Tryz.func187 (by kernel_rfl) (by kernel_rfl)
theorem cal_SplitOf : Cal Tryz.prog 180 := Cal.of Tryz.func180 (by kernel_rfl) (by kernel_rfl)
theorem sameTerms (G : List (Nat × List D)) (a b : List (List Fo)) : ACr Tryz.prog G 22 [.d (termsD a), .d (termsD b)] (.bool (decide (a = b))) := by
 refine AC_of (ts := [4]) 27 Tryz.func22 rfl rfl rfl (by simp) fun W I => ?_
 refine jfact (t := 0) rfl fun hl0 => ?_
 refine jfact (t := 1) rfl fun hl1 => ?_
 repeat' (first
  | refine caq cal_sameOps (sameOps _ _ _) ?_
  | exact True.intro
  | refine stp ?_
  | refine two ?_ ?_
  | (refine imp fun hc => ?_) <;> try exact cx hc
  | refine all fun v_ => ?_)
 · ((with_reducible apply rq1); rfl; rfl)
   refine ret_eq ?_
   rw [decide_eq_false]
   intro e; subst e; omega
 refine J_loop (X := Nat) (fun i => [(0, .d (termsD a)), (1, .d (termsD b)), (5, .int i)]) (fun _ => []) (fun i => i ≤ a.length ∧ a.take i = b.take i) (fun i => a.length - i) 0 ⟨Nat.zero_le _, rfl⟩ ?_ rfl ?_
 · exact leD
 rintro i ⟨h1, h2⟩
 repeat' (first
  | refine caq cal_sameOps (sameOps _ _ _) ?_
  | exact True.intro
  | refine stp ?_
  | refine two ?_ ?_
  | (refine imp fun hc => ?_) <;> try exact cx hc
  | refine all fun v_ => ?_)
 all_goals first
  | (((with_reducible apply rq1); rfl; rfl)
     refine ret_eq ?_
     rw [decide_eq_false]
     intro e; subst e
     exact hc rfl)
  | (refine ⟨i + 1, ⟨by omega, take_step (by omega) (by omega) h2 ?_⟩, by first | omega | (dsimp only; omega), ?_, rfl⟩
     · exact hc
     · exact leD)
  | (((with_reducible apply rq1); rfl; rfl)
     refine ret_eq ?_
     rw [decide_eq_true]
     rwa [List.take_of_length_le (by omega), List.take_of_length_le (by omega)] at h2)

theorem Ops (G : List (Nat × List D)) (l : List Fo) (m n : Int) (h0 : 0 ≤ m) (h1 : m ≤ n) (h2 : n ≤ l.length) : ACr Tryz.prog G 187 [.d (opsD l), .int m, .int n] (.d (opsD ((l.drop m.toNat).take (n.toNat - m.toNat)))) := by
 obtain ⟨m, rfl⟩ := Int.eq_ofNat_of_zero_le h0
 obtain ⟨n, rfl⟩ := Int.eq_ofNat_of_zero_le (show 0 ≤ n by omega)
 refine AC_ofV (ts := [6]) 23 Tryz.func187 rfl rfl rfl (by simp) fun W I => ?_
 refine jfact (t := 0) rfl fun hl => ?_
 repeat' (first
  | exact True.intro
  | refine stp ?_
  | refine two ?_ ?_
  | (refine imp fun hc => ?_) <;> try exact cx hc
  | refine all fun v_ => ?_)
 refine jrow (E := 53) (sz := 2) Fo.cells ?_
 refine J_loop (X := Nat × Value) (fun y => [(0, .d (opsD l)), (2, .int n), (7, .val y.2), (8, .int y.1)]) (fun y => [rowE y.2 53 2 Fo.cells ((l.drop m).take (y.1 - m))]) (fun y => m ≤ y.1 ∧ y.1 ≤ n) (fun y => n - y.1) (m, .slice none 0 0) ⟨Nat.le_refl _, by dsimp only; omega⟩ ?_ ?_ ?_
 · exact leD
 · simp
 rintro ⟨i, v⟩ ⟨k1, k2⟩
 dsimp only at k1 k2 ⊢
 repeat' (first
  | exact True.intro
  | refine stp ?_
  | refine two ?_ ?_
  | (refine imp fun hc => ?_) <;> try exact cx hc
  | refine all fun v_ => ?_)
 · refine ⟨(i + 1, v_), ⟨by dsimp only; omega, by dsimp only; omega⟩, by dsimp only; omega, ?_, ?_⟩
   · exact leD
   · dsimp only
     rw [cut_snoc l m i k1 (by omega)]
 · refine retv (vfreeze (t := 6) (eb := 16) rfl rfl (fun x => rfl) (by simp only [List.length_take, List.length_drop]; omega)) ?_
   ((with_reducible apply rq1); rfl; rfl)
   refine ret_eq ?_
   have : i = n := by omega
   rw [this]; rfl

theorem armXT4_1 {p q : Prop} (hp : p) (h : p → q := by
 apply cmp; (focus (first
  | ((with_reducible apply call0); (focus rfl); (focus exact cal_endOf); (focus exact endOf _ _ _ (by omega) (by omega)); (focus rfl))
  | ((with_reducible apply je_call0); (focus rfl); (focus (decide +kernel)); (focus rfl); (focus exact cal_endOf); (focus exact endOf _ _ _ (by omega) (by omega)); (focus rfl))
  | ((with_reducible apply call0); (focus rfl); (focus exact cal_Ops); (focus exact Ops _ _ _ _ (by omega) (by omega) (by omega)); (focus rfl))
  | ((with_reducible apply je_call0); (focus rfl); (focus (decide +kernel)); (focus rfl); (focus exact cal_Ops); (focus exact Ops _ _ _ _ (by omega) (by omega) (by omega)); (focus rfl))
  ))
 exact fun h => h) : q := h hp
theorem SplitOf (G : List (Nat × List D)) (l : List Fo) : ACr Tryz.prog G 180 [.d (opsD l)] (.tup [.d (termsD (splitOf l).1), .int (splitOf l).2]) := by
 have hE := EndsOf G l
 generalize he : endsOf l = p at hE
 obtain ⟨es, e⟩ := p
 refine AC_ofV (ts := [2, 3]) 51 Tryz.func180 rfl rfl rfl (by simp) fun W I => ?_
 by_cases hc : e ≠ 0
 · repeat' (first
    | refine ca cal_EndsOf (hE) ?_
    | refine ca cal_PartsOf (PartsOf _ _) ?_
    | refine armXT4_1 ?_
    | exact True.intro
    | refine stp ?_
    | refine two ?_ ?_
    | (refine imp fun hc => ?_) <;> try exact cx hc
    | refine all fun v_ => ?_)
   refine retv (vnil (t := 2) 1 24 rfl) ?_
   ((with_reducible apply rq2); rfl; rfl; rfl)
   refine ret_eq ?_
   rw [splitOf, he, if_pos hc]; rfl
 have e0 : e = 0 := by simpa using hc
 subst e0
 obtain ⟨hl, h0, h1, hlen, hes⟩ := endsOf_ok he
 have hs : splitOf l = (chunks l (partsOf l[0].kind).1.toNat 1, 0) := by rw [splitOf, he, List.getElem?_eq_getElem h0]; rfl
 have hp := partsOf_le l[0].kind
 repeat' (first
  | refine ca cal_EndsOf (hE) ?_
  | refine ca cal_PartsOf (PartsOf _ _) ?_
  | refine armXT4_1 ?_
  | exact True.intro
  | refine stp ?_
  | refine two ?_ ?_
  | (refine imp fun hc => ?_) <;> try exact cx hc
  | refine all fun v_ => ?_)
 generalize hn : (partsOf l[0].kind).1.toNat = n at hs
 refine jrow (E := 27) (sz := 1) termC ?_
 refine J_loop (X := Nat × Nat × Value × List (List Fo)) (fun y => [(0, .d (opsD l)), (6, .val y.2.2.1), (7, .int (partsOf l[0].kind).1), (9, .int y.2.1), (10, .int y.1)]) (fun y => [rowE y.2.2.1 27 1 termC y.2.2.2]) (fun y => Parted l n y.1 y.2.1 y.2.2.2) (fun y => n - y.1) (0, 1, .slice none 0 0, []) (hn ▸ Parted.start h0 h1) ?_ rfl ?_
 · exact leD
 rintro ⟨j, i, v, out⟩ k
 dsimp only at k ⊢
 have klt := k.lt
 have kle := k.len
 have kfew := k.few
 by_cases hj : j < n
 · obtain ⟨q1, q2, q3, q4⟩ := k.next hj
   repeat' (first
    | refine ca cal_EndsOf (hE) ?_
    | refine ca cal_PartsOf (PartsOf _ _) ?_
    | refine armXT4_1 ?_
    | exact True.intro
    | refine stp ?_
    | refine two ?_ ?_
    | (refine imp fun hc => ?_) <;> try exact cx hc
    | refine all fun v_ => ?_)
   refine ⟨(j + 1, (Sp.endOf l i).1.toNat, v_, _), q4, by dsimp only; omega, ?_, ?_⟩
   · exact leD
   · simp only [Int.toNat_natCast]
 · repeat' (first
    | refine ca cal_EndsOf (hE) ?_
    | refine ca cal_PartsOf (PartsOf _ _) ?_
    | refine armXT4_1 ?_
    | exact True.intro
    | refine stp ?_
    | refine two ?_ ?_
    | (refine imp fun hc => ?_) <;> try exact cx hc
    | refine all fun v_ => ?_)
   refine retv (vfreeze (t := 2) (eb := 24) rfl rfl (fun x => rfl) (by omega)) ?_
   ((with_reducible apply rq2); rfl; rfl; rfl)
   refine ret_eq ?_
   rw [hs, k.done (by have := k.le; omega)]
end Go.Proofs.YtajnpfgelpkijaaGreatDoor
namespace Go.Sp
open Go.Av

def cntr (p : Nat → Bool) : Nat → Nat
 | 0 => 0
 | n + 1 => cntr p n + if p n then 1 else 0
def mxr (f : Nat → Nat) : Nat → Nat
 | 0 => 0
 | n + 1 => max (mxr f n) (f n)
theorem cntr_congr {p q : Nat → Bool} : ∀ n, (∀ k, k < n → p k = q k) → cntr p n = cntr q n
 | 0, _ => rfl
 | n + 1, h => by simp only [cntr, cntr_congr n fun k hk => h k (by omega), h n (by omega)]
theorem mxr_congr {p q : Nat → Nat} : ∀ n, (∀ k, k < n → p k = q k) → mxr p n = mxr q n
 | 0, _ => rfl
 | n + 1, h => by simp only [mxr, mxr_congr n fun k hk => h k (by omega), h n (by omega)]
theorem cntr_add (p : Nat → Bool) (i : Nat) : ∀ m, cntr p (i + m) = cntr p i + cntr (fun k => p (i + k)) m
 | 0 => by simp [cntr]
 | m + 1 => by rw [← Nat.add_assoc]; simp only [cntr, cntr_add p i m]; omega
theorem mxr_add (p : Nat → Nat) (i : Nat) : ∀ m, mxr p (i + m) = max (mxr p i) (mxr (fun k => p (i + k)) m)
 | 0 => by simp [mxr]
 | m + 1 => by rw [← Nat.add_assoc]; simp only [mxr, mxr_add p i m]; omega
theorem mxr_succ (p : Nat → Nat) : ∀ m, mxr (fun k => 1 + p k) (m + 1) = 1 + mxr p (m + 1)
 | 0 => by simp [mxr]
 | m + 1 => by have := mxr_succ p m; simp only [mxr] at this ⊢; omega
theorem cntr_one {p : Nat → Bool} (h0 : p 0 = true) : ∀ i, 1 ≤ i → (∀ k, 1 ≤ k → k < i → p k = false) → cntr p i = 1
 | 0, h, _ => absurd h (by decide)
 | 1, _, _ => by simp [cntr, h0]
 | i + 2, _, h => by
   have := cntr_one h0 (i + 1) (by omega) fun k h1 h2 => h k h1 (by omega)
   rw [cntr, this, h (i + 1) (by omega) (by omega)]; rfl

def count (l : List Fo) (i : Nat) : Nat := cntr (fun k => decide ((i : Int) < (endOf l k).1)) (i + 1)
def deep (l : List Fo) : Nat := mxr (count l) l.length
theorem scan_take : ∀ (r : List Fo) (m : Nat) (w i e d : Int), scan r w (i + d) = (e + d, 0) → e ≤ i + m → scan (r.take m) w i = (e, 0)
 | [], m, w, i, e, d, h, _ => by simp [scan] at h
 | o :: r, m, w, i, e, d, h, hm => by
   have hb := scan_bound (o :: r) w (i + d) (by rw [h])
   rw [h] at hb
   obtain ⟨m, rfl⟩ : ∃ m', m = m' + 1 := ⟨m - 1, by dsimp only at hb; omega⟩
   rw [List.take_succ_cons, scan_cons]
   rw [scan_cons] at h
   by_cases h1 : (partsOf o.kind).2 ≠ 0
   · rw [if_pos h1] at h; simp at h; exact absurd h.2 h1
   rw [if_neg h1] at h ⊢
   by_cases h2 : w + (partsOf o.kind).1 - 1 = 0
   · rw [if_pos h2] at h ⊢
     simp only [Prod.mk.injEq, and_true] at h ⊢
     omega
   · rw [if_neg h2] at h ⊢
     refine scan_take r m _ (i + 1) e d ?_ (by omega)
     rw [← h]; congr 1; omega

theorem scan_first {l : List Fo} {i : Nat} {w : Int} {e : Int} (hw : 1 ≤ w) (h : scan (l.drop i) w i = (e, 0)) : (endOf l i).2 = 0 ∧ (endOf l i).1 ≤ e := by
 by_cases h1 : w = 1
 · subst h1
   have he : endOf l i = scan (l.drop i) 1 i := by unfold endOf; rw [Int.toNat_natCast]
   rw [he, h]; exact ⟨rfl, Int.le_refl _⟩
 · have hw' : w = (w - 1) + 1 := by omega
   rw [hw', scan_next l i (w - 1) (by omega)] at h
   by_cases h2 : (endOf l i).2 ≠ 0
   · rw [if_pos h2] at h; simp at h; exact absurd h.2 h2
   rw [if_neg h2] at h
   have hb := endOf_bound l i (by simpa using h2)
   have := scan_bound (l.drop (endOf l i).1.toNat) (w - 1) (endOf l i).1 (by rw [h])
   rw [h] at this
   exact ⟨by simpa using h2, by dsimp only at this; omega⟩

theorem scan_nest (l : List Fo) : ∀ (m i : Nat) (w : Int) (e : Int), l.length ≤ i + m → 1 ≤ w → scan (l.drop i) w i = (e, 0) → ∀ k : Nat, i ≤ k → (k : Int) < e → (endOf l k).2 = 0 ∧ (endOf l k).1 ≤ e
 | 0, i, w, e, hm, hw, h, k, h1, h2 => by
   rw [List.drop_eq_nil_of_le (by omega)] at h; simp [scan] at h
 | m + 1, i, w, e, hm, hw, h, k, h1, h2 => by
   by_cases hk : k = i
   · subst hk; exact scan_first hw h
   by_cases hi : i < l.length
   · rw [List.drop_eq_getElem_cons hi, scan_cons] at h
     have hp := partsOf_le l[i].kind
     by_cases h3 : (partsOf l[i].kind).2 ≠ 0
     · rw [if_pos h3] at h; simp at h; exact absurd h.2 h3
     rw [if_neg h3] at h
     by_cases h4 : w + (partsOf l[i].kind).1 - 1 = 0
     · rw [if_pos h4] at h; simp at h; omega
     · rw [if_neg h4] at h
       exact scan_nest l m (i + 1) _ e (by omega) (by omega) h k (by omega) h2
   · rw [List.drop_eq_nil_of_le (by omega)] at h; simp [scan] at h

theorem part_at {l : List Fo} {i : Nat} (h : (endOf l i).2 = 0) (k : Nat) (hk : (i : Int) + k < (endOf l i).1) :
 endOf ((l.drop i).take ((endOf l i).1.toNat - i)) k = ((endOf l (i + k : Nat)).1 - i, 0) := by
 have hb := endOf_bound l i h
 have hs : scan (l.drop i) 1 i = ((endOf l i).1, 0) := by
  have he : endOf l i = scan (l.drop i) 1 i := by unfold endOf; rw [Int.toNat_natCast]
  rw [← he]; exact Prod.ext rfl h
 obtain ⟨n1, n2⟩ := scan_nest l l.length i 1 _ (by omega) (by omega) hs (i + k) (by omega) (by omega)
 have he : endOf l (i + k : Nat) = scan (l.drop (i + k)) 1 ((i + k : Nat) : Int) := by unfold endOf; rw [Int.toNat_natCast]
 have e1 : endOf ((l.drop i).take ((endOf l i).1.toNat - i)) k = scan (((l.drop i).take ((endOf l i).1.toNat - i)).drop k) 1 k := by unfold endOf; rw [Int.toNat_natCast]
 rw [e1, List.drop_take, List.drop_drop]
 refine scan_take _ _ _ _ _ (i : Int) ?_ ?_
 · have : (k : Int) + i = ((i + k : Nat) : Int) := by omega
   rw [this, ← he]
   exact Prod.ext (by dsimp only; omega) n1
 · omega

theorem part_length {l : List Fo} {i : Nat} (h : (endOf l i).2 = 0) : (((l.drop i).take ((endOf l i).1.toNat - i)).length : Int) = (endOf l i).1 - i := by
 have hb := endOf_bound l i h
 rw [List.length_take, List.length_drop]; omega

theorem endsOf_of {l : List Fo} (h60 : l.length ≤ 60) (h : endOf l 0 = ((l.length : Int), 0)) : (endsOf l).2 = 0 := by
 unfold endsOf
 rw [if_neg (by omega), h, if_neg (by simp), if_neg (by simp)]

def most (out : List (List Fo)) : Nat := out.foldl (fun m t => max m (deep t)) 0
theorem most_snoc (out : List (List Fo)) (t : List Fo) : most (out ++ [t]) = max (most out) (deep t) := by simp [most]

structure Deeper (l : List Fo) (i : Nat) (out : List (List Fo)) : Prop where
 mx : mxr (count l) i = 1 + most out
 closed : ∀ k : Nat, 1 ≤ k → k < i → (endOf l k).1 ≤ i
 well : ∀ t ∈ out, (endsOf t).2 = 0 ∧ t.length < l.length
theorem count_zero {l : List Fo} (h0 : 0 < l.length) (h : endOf l 0 = ((l.length : Int), 0)) : count l 0 = 1 := by
 have e0 : ((0 : Nat) : Int) = 0 := rfl
 unfold count
 simp only [cntr, e0, h]
 rw [if_pos (by simpa using h0)]
theorem Deeper.start {l : List Fo} (h0 : 0 < l.length) (h : endOf l 0 = ((l.length : Int), 0)) : Deeper l 1 [] :=
 ⟨by simp [mxr, count_zero h0 h, most], fun k h1 h2 => by omega, by simp⟩
theorem Deeper.next {l : List Fo} {i : Nat} {out : List (List Fo)} (d : Deeper l i out) (h60 : l.length ≤ 60) (h0 : endOf l 0 = ((l.length : Int), 0)) (hi : 1 ≤ i) (he : (endOf l i).2 = 0) : Deeper l (endOf l i).1.toNat (out ++ [(l.drop i).take ((endOf l i).1.toNat - i)]) := by
 have hb := endOf_bound l i he
 have hlen := part_length he
 have hs : scan (l.drop i) 1 i = ((endOf l i).1, 0) := by
  have he' : endOf l i = scan (l.drop i) 1 i := by unfold endOf; rw [Int.toNat_natCast]
  rw [← he']; exact Prod.ext rfl he
 have nest := scan_nest l l.length i 1 _ (by omega) (by omega) hs
 have hpart := fun k hk => part_at he k hk
 generalize hc : (l.drop i).take ((endOf l i).1.toNat - i) = c at hlen hpart ⊢
 have hcl : c.length = (endOf l i).1.toNat - i := by omega
 have key : ∀ k, k < c.length → count l (i + k) = 1 + count c k := by
  intro k hk
  unfold count
  rw [Nat.add_assoc, cntr_add]
  congr 1
  · refine cntr_one ?_ i hi ?_
    · have e0 : ((0 : Nat) : Int) = 0 := rfl
      rw [e0, h0]; simp; omega
    · intro q q1 q2
      have := d.closed q q1 q2
      simp; omega
  · refine cntr_congr _ fun q hq => ?_
    rw [hpart q (by omega)]
    by_cases hx : ((i + k : Nat) : Int) < (endOf l (i + q : Nat)).1
    · rw [decide_eq_true hx, decide_eq_true]; dsimp only; omega
    · rw [decide_eq_false hx, decide_eq_false]; dsimp only; omega
 refine ⟨?_, ?_, ?_⟩
 · have e : (endOf l i).1.toNat = i + c.length := by omega
   rw [e, mxr_add, d.mx, most_snoc, mxr_congr c.length key]
   obtain ⟨m, hm⟩ : ∃ m, c.length = m + 1 := ⟨c.length - 1, by omega⟩
   have : mxr (fun k => 1 + count c k) c.length = 1 + deep c := by unfold deep; rw [hm, mxr_succ]
   rw [this]; omega
 · intro k k1 k2
   by_cases hk : k < i
   · have := d.closed k k1 hk; omega
   · have := (nest k (by omega) (by omega)).2; omega
 · intro t ht
   rcases List.mem_append.1 ht with ht | ht
   · exact d.well t ht
   · obtain rfl : t = c := by simpa using ht
     have := hpart 0 (by omega)
     have e0 : ((0 : Nat) : Int) = 0 := rfl
     rw [e0] at this
     refine ⟨endsOf_of (by omega) ?_, by omega⟩
     rw [this, hlen]; rfl
theorem chunks_deeper {l : List Fo} (h60 : l.length ≤ 60) (h0 : endOf l 0 = ((l.length : Int), 0)) {n : Nat} : ∀ (m j i : Nat) (out : List (List Fo)), n ≤ j + m → Parted l n j i out → Deeper l i out → Deeper l l.length (chunks l n 1)
 | 0, j, i, out, hm, p, d => by
   have := p.le
   have hj : j = n := by omega
   rw [p.done hj, ← p.fin hj]; exact d
 | m + 1, j, i, out, hm, p, d => by
   by_cases hj : j < n
   · obtain ⟨q1, q2, q3, q4⟩ := p.next hj
     exact chunks_deeper h60 h0 m (j + 1) _ _ (by omega) q4 (d.next h60 h0 p.one q1)
   · have := p.le
     have hj : j = n := by omega
     rw [p.done hj, ← p.fin hj]; exact d
theorem deep_parts {l : List Fo} (h : (endsOf l).2 = 0) : deep l = 1 + most (splitOf l).1 ∧ ∀ t ∈ (splitOf l).1, (endsOf t).2 = 0 ∧ t.length < l.length := by
 obtain ⟨h60, h0, h1, _, _⟩ := endsOf_ok (l := l) (es := (endsOf l).1) (Prod.ext rfl h)
 have hs : (splitOf l).1 = chunks l (partsOf l[0].kind).1.toNat 1 := by rw [splitOf, if_neg (by simpa using h), List.getElem?_eq_getElem h0]; rfl
 have := chunks_deeper (n := (partsOf l[0].kind).1.toNat) h60 h1 _ 0 1 [] (Nat.le_of_eq (Nat.zero_add _).symm) (Parted.start h0 h1) (Deeper.start h0 h1)
 rw [hs]
 exact ⟨this.mx, this.well⟩

def fitsZ (k v props : Int) : Int := if k < 8 then 13 else if (k = 13 ∧ (v < 0 ∨ props ≤ v)) ∨ (k ≠ 13 ∧ v ≠ 0) then 2 else 0
abbrev aheadP (k : Int) : Prop := 14 ≤ k ∧ k ≤ 18
def formE : List Fo → Int → Nat → Int
 | [], _, n => if 6 < n then 1 else 0
 | o :: r, props, n => if fitsZ o.kind o.val props ≠ 0 then fitsZ o.kind o.val props else formE r props (if aheadP o.kind then n + 1 else n)
def formF (l : List Fo) (props : Int) : Int := if props < 0 ∨ 6 < props then 2 else if (endsOf l).2 ≠ 0 then (endsOf l).2 else formE l props 0
theorem formE_at (l : List Fo) (i : Nat) (hi : i < l.length) (props : Int) (n : Nat) : formE (l.drop i) props n = if fitsZ l[i].kind l[i].val props ≠ 0 then fitsZ l[i].kind l[i].val props else formE (l.drop (i + 1)) props (if aheadP l[i].kind then n + 1 else n) := by
 rw [List.drop_eq_getElem_cons hi]; rfl
theorem formE_end (l : List Fo) (i : Nat) (hi : l.length ≤ i) (props : Int) (n : Nat) : formE (l.drop i) props n = if 6 < n then 1 else 0 := by
 rw [List.drop_eq_nil_of_le hi]; rfl
end Go.Sp
