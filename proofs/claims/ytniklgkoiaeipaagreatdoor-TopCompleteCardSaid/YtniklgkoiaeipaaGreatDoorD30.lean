/- A bundle of this claim's own texts: V10 V11 V3. -/
import Derived.Test.YtniklgkoiaeipaaGreatDoorD8
import Derived.Test.YtniklgkoiaeipaaGreatDoorD14
import Derived.Test.YtniklgkoiaeipaaGreatDoorD29
set_option linter.unusedVariables false
set_option linter.unusedSimpArgs false
set_option maxRecDepth 100000
set_option maxHeartbeats 4000000
namespace Go.Proofs.YtniklgkoiaeipaaGreatDoor
open Go Go.Av Go.Sp
theorem cal_way : Cal Tryz.prog 107 := Cal.of Tryz.func107 (by kernel_rfl) (by kernel_rfl)
abbrev castL (l : List Nat) : List Int := l.map fun k : Nat => (k : Int)
theorem way (g : Gn) (hok : g.ok) (fr : List Nat) (ins wnt : Nat → Bool) (fi fw : FuncId) (ci cw : Array Value) (ea eb ec ed : Ent) (hci : Cal Tryz.prog fi) (hcw : Cal Tryz.prog fw)
 (hai : ∀ k : Nat, k < g.spots.length → AC Tryz.prog GP fi ([.int k] ++ ci.toList.map AV.val) [ea, eb, ec, ed] fun r h => ∃ _ : Unit, r = .ret (.bool (ins k)) ∧ h = [ea, eb, ec, ed])
 (haw : ∀ k : Nat, k < g.spots.length → AC Tryz.prog GP fw ([.int k] ++ cw.toList.map AV.val) [ea, eb, ec, ed] fun r h => ∃ _ : Unit, r = .ret (.bool (wnt k)) ∧ h = [ea, eb, ec, ed])
 (hne : fr ≠ []) (hnd : fr.Nodup) (hfr : ∀ k ∈ fr, k < g.spots.length) :
 AC Tryz.prog GP 107 [gnA g, .d (intsD (castL fr)), .val (.func (.func fi) #[] ci), .val (.func (.func fw) #[] cw)] [ea, eb, ec, ed] fun r h => ∃ v : {l : List Nat // WayP g.nx g.spots.length fr ins wnt l ∧ l.length ≤ g.spots.length}, r = .ret (.d (intsD (castL v.1))) ∧ h = [ea, eb, ec, ed] := by
 have hsz := hok.size
 have hnl := hok.next
 have hto := fun i => g.nx_lt hok i
 refine AC_ofV (ts := [8]) Tryz.f107.ntmps Tryz.func107 rfl rfl rfl (by simp [Tryz.ntmps107]) fun W I => ?_
 have hfl : fr.length ≤ g.spots.length := by
  have h1 := (WI.nil g.nx g.spots.length fr ins)
  have key : ∀ (m : Nat) (xs : List Nat), xs.Nodup → (∀ x ∈ xs, x < m) → xs.length ≤ m := by
   intro m
   induction m with
   | zero =>
     intro xs _ h
     cases xs with
     | nil => exact Nat.le_refl _
     | cons x _ => have := h x List.mem_cons_self; omega
   | succ m ih =>
     intro xs hn h
     have i1 := ih (xs.erase m) (hn.erase _) fun x hx => by
      have h1 := h x (List.mem_of_mem_erase hx)
      have h2 : x ≠ m := fun e => by subst e; exact (List.Nodup.not_mem_erase hn) hx
      omega
     have := List.length_erase (a := m) (l := xs)
     split at this <;> omega
  exact key _ fr hnd hfr
 have hcl : (castL fr).length = fr.length := by simp
 refine jrow (E := 3) (sz := 1) intC ?_
 repeat' (first
  | ((with_reducible apply (jmkmapE (Value.int .i64) (Value.int .i64))); (focus rfl))
  | ((with_reducible apply jp); (focus ((with_reducible apply (pu_lookM0 (vv := Value.int .i64) (keyK_int .i64))); (focus rfl); (focus rfl); (focus rfl); (focus rfl); (focus (with_reducible exact ElC.h)); (focus exact memD); (focus assumption))); (focus rfl))
  | ((with_reducible apply jp); (focus ((with_reducible apply (pu_lookM2 (vv := Value.int .i64) (keyK_int .i64))); (focus rfl); (focus rfl); (focus rfl); (focus rfl); (focus (with_reducible exact ElC.h)); (focus exact memD); (focus assumption))); (focus rfl))
  | exact True.intro | refine stpA ?_ | refine two ?_ ?_
  | (refine imp fun hc => ?_) <;> try exact cx hc
  | refine all fun v_ => ?_)
 obtain ⟨q, rfl⟩ : ∃ x, x = v_ := ⟨v_, rfl⟩
 obtain ⟨bm, rfl⟩ : ∃ x, x = v_ := ⟨v_, rfl⟩
 obtain ⟨bx, rfl⟩ : ∃ x, x = v_ := ⟨v_, rfl⟩
 refine J_loopV (X := Nat) (fun i => [(2, .val (.func (.func fi) #[] ci)), (3, .val (.func (.func fw) #[] cw)), (4, .val (.pointer (some ⟨bx, 0, none⟩))), (9, .val (.map (some bm))), (10, .val q.v), (22, .d (intsD (castL fr))), (23, .int fr.length), (24, .int i)]) (fun i => [.raw bm (mapO (entL (Value.int .i64) (Value.int .i64) ((fr.take i).map fun k : Nat => ((k : Int), (-1 : Int))))), rowE q.v 3 1 intC (castL fr), .cells bx 160 [.d (opsD g.spots), .int g.init, .d (natLD g.next), .d (natsD g.sets), .int g.many], ea, eb, ec, ed]) (fun i => i ≤ fr.length ∧ ∀ k ∈ fr.take i, wnt k = false) (fun i => fr.length - i) 0 ⟨Nat.zero_le _, fun k hk => (by cases hk)⟩ (VS.take (by exact takedD) ?_) ?_
 · exact leD
 rintro i ⟨hi, hun⟩
 by_cases hil : i < fr.length
 · have hlt := hfr _ (List.getElem_mem hil)
   have hci' : (castL fr)[i]'(by omega) = (fr[i] : Int) := by simp
   have hw := haw fr[i] hlt
   rw [← hci'] at hw
   have hno : getM ((fr.take i).map fun k : Nat => ((k : Int), (-1 : Int))) ((castL fr)[i]'(by omega)) = none := by
    rw [hci', getM_none]
    intro p hp e
    obtain ⟨k, hk, rfl⟩ := List.mem_map.1 hp
    obtain ⟨j, hj, rfl⟩ := List.getElem_of_mem hk
    rw [List.getElem_take] at e
    rw [List.length_take] at hj
    have := List.pairwise_iff_getElem.1 hnd j i (by omega) hil (by omega)
    exact this (by dsimp only at e; omega)
   have hps : (fr.take (i + 1)).map (fun k : Nat => ((k : Int), (-1 : Int))) = ((fr.take i).map fun k : Nat => ((k : Int), (-1 : Int))) ++ [((castL fr)[i]'(by omega), (-1 : Int))] := by
    rw [List.take_succ_eq_append_getElem hil, List.map_append, hci']; rfl
   cases hwk : wnt fr[i] with
   | true =>
     rw [hwk] at hw
     repeat' (first
      | ((with_reducible apply (js_putMr (keyK_int .i64) (vv := Value.int .i64) (c := -1))); (focus rfl); (focus rfl); (focus rfl); (focus exact fun _ _ _ h => h); (focus rfl); (focus rfl); (focus exact updD); (focus assumption))
      | ((with_reducible apply callGV); (focus rfl); (focus rfl); (focus exact hcw); (focus exact hw); (focus exact takeD); (focus rfl); (focus exact appD))
      | exact True.intro | refine stpA ?_ | refine two ?_ ?_
      | (refine imp fun hc => ?_) <;> try exact cx hc
      | refine all fun v_ => ?_)
     refine retv (VS.drop (h' := [ea, eb, ec, ed]) (by exact sublD)) ?_
     ((with_reducible apply rq1); rfl; rfl)
     refine ⟨⟨[fr[i]], WayP.one (List.getElem_mem hil) hlt hwk, by rw [List.length_singleton]; omega⟩, ?_, rfl⟩
     rw [hci']; rfl
   | false =>
     rw [hwk] at hw
     repeat' (first
      | ((with_reducible apply (js_putMr (keyK_int .i64) (vv := Value.int .i64) (c := -1))); (focus rfl); (focus rfl); (focus rfl); (focus exact fun _ _ _ h => h); (focus rfl); (focus rfl); (focus exact updD); (focus assumption))
      | ((with_reducible apply callGV); (focus rfl); (focus rfl); (focus exact hcw); (focus exact hw); (focus exact takeD); (focus rfl); (focus exact appD))
      | exact True.intro | refine stpA ?_ | refine two ?_ ?_
      | (refine imp fun hc => ?_) <;> try exact cx hc
      | refine all fun v_ => ?_)
     refine ⟨i + 1, ⟨by omega, fun k hk => ?_⟩, by omega, VS.take (by rw [hps]; exact takedD) ?_⟩
     · rw [List.take_succ_eq_append_getElem hil] at hk
       rcases List.mem_append.1 hk with h | h
       · exact hun k h
       · rw [List.mem_singleton.1 h]; exact hwk
     · exact leD
 obtain rfl : i = fr.length := by omega
 rw [List.take_length] at hun ⊢
 have hW0 : WS g.nx g.spots.length fr ins wnt (fr.map fun k : Nat => ((k : Int), (-1 : Int))) (castL fr) none := WS.start hnd hfr hun
 have hfl0 : 0 < (castL fr).length := by rw [hcl]; exact List.length_pos_iff.2 hne
 refine J_openQ (h1 := [_]) hfl0 fun qu hqo hqv => ?_
 rw [hqv]
 rw [hcl] at hqo ⊢
 repeat' (first
  | exact True.intro | refine stpA ?_ | refine two ?_ ?_
  | (refine imp fun hc => ?_) <;> try exact cx hc
  | refine all fun v_ => ?_)
 refine J_loopV (X := List (Int × Int) × List Int × Qu) (fun y => [(2, .val (.func (.func fi) #[] ci)), (3, .val (.func (.func fw) #[] cw)), (4, .val (.pointer (some ⟨bx, 0, none⟩))), (9, .val (.map (some bm))), (10, .val (y.2.2.v y.2.1.length))]) (fun y => [.raw bm (mapO (entL (Value.int .i64) (Value.int .i64) (y.1))), quE 3 y.2.2 y.2.1, .cells bx 160 [.d (opsD g.spots), .int g.init, .d (natLD g.next), .d (natsD g.sets), .int g.many], ea, eb, ec, ed]) (fun y => WS g.nx g.spots.length fr ins wnt y.1 y.2.1 none ∧ y.2.2.Ok y.2.1.length ∧ y.2.1.length ≤ y.1.length) (fun y => 2 * (g.spots.length - y.1.length) + y.2.1.length) (_, castL fr, qu) ⟨hW0, by rw [hcl]; exact hqo, by rw [hcl, List.length_map]; exact Nat.le_refl _⟩ (VS.take (by exact takedD) ?_) ?_
 · rw [hcl]; exact leD
 rintro ⟨ps, td, qu⟩ ⟨hW, hqo, htd⟩
 dsimp only at hW hqo htd ⊢
 have hpl := hW.wi.len
 cases td with
 | nil =>
   dsimp only [List.length_nil] at hqo htd ⊢
   repeat' (first
    | exact True.intro | refine stpA ?_ | refine two ?_ ?_
    | (refine imp fun hc => ?_) <;> try exact cx hc
    | refine all fun v_ => ?_)
   refine retv (VS.trans (VS.drop (h' := [ea, eb, ec, ed]) (by exact sublD)) (vnil (t := 8) 1 8 rfl)) ?_
   ((with_reducible apply rq1); rfl; rfl)
   exact ⟨⟨[], .inr ⟨rfl, hW.noway⟩, Nat.zero_le _⟩, rfl, rfl⟩
 | cons y td =>
   obtain ⟨i, rfl, hik⟩ := hW.todo y List.mem_cons_self
   obtain ⟨i0, hi0, ei⟩ := isKey_at.1 hik
   obtain ⟨i', ei', hin, _⟩ := hW.wi.key i0 hi0
   obtain rfl : i = i' := by omega
   have hnx := g.nx_get i (by omega)
   dsimp only [List.length_cons] at hqo htd ⊢
   have hh := qu_head qu (i : Int) td hqo
   have hq1 : (qu.tl (i : Int)).Ok td.length := hqo.tl
   obtain ⟨M, hM⟩ : ∃ M, M = 2 * (g.spots.length - ps.length) + td.length := ⟨_, rfl⟩
   have hW1 := hW.pop
   repeat' (first
    | ((with_reducible apply jp); (focus ((with_reducible apply pu_qu_at0); (focus rfl); (focus rfl); (focus rfl); (focus (with_reducible exact ElC.h)); (focus omega))); (focus rfl))
    | ((with_reducible apply jp); (focus ((with_reducible apply (pu_qu_tl (i : Int))); (focus rfl); (focus rfl); (focus rfl); (focus (with_reducible exact ElC.h)); (focus assumption))); (focus rfl))
    | exact True.intro | refine stpA ?_ | refine two ?_ ?_
    | (refine imp fun hc => ?_) <;> try exact cx hc
    | refine all fun v_ => ?_)
   rw [← quE_tl 3 qu (i : Int) td hqo]
   generalize qu.tl (i : Int) = qu1 at hq1 ⊢
   refine J_loopV (X := List (Int × Int) × List Int × Qu × Nat) (fun y => [(2, .val (.func (.func fi) #[] ci)), (3, .val (.func (.func fw) #[] cw)), (4, .val (.pointer (some ⟨bx, 0, none⟩))), (9, .val (.map (some bm))), (10, .val (y.2.2.1.v y.2.1.length)), (13, .int i), (49, .d (natsD g.next[i])), (50, .int g.next[i].length), (51, .int y.2.2.2)]) (fun y => [.raw bm (mapO (entL (Value.int .i64) (Value.int .i64) (y.1))), quE 3 y.2.2.1 y.2.1, .cells bx 160 [.d (opsD g.spots), .int g.init, .d (natLD g.next), .d (natsD g.sets), .int g.many], ea, eb, ec, ed]) (fun y => WS g.nx g.spots.length fr ins wnt y.1 y.2.1 (some (i, y.2.2.2)) ∧ y.2.2.1.Ok y.2.1.length ∧ y.2.1.length ≤ y.1.length ∧ y.2.2.2 ≤ g.next[i].length ∧ 2 * (g.spots.length - y.1.length) + y.2.1.length ≤ M) (fun y => g.next[i].length - y.2.2.2) (ps, td, qu1, 0) ⟨hW1, hq1, by dsimp only; omega, Nat.zero_le _, by dsimp only; omega⟩ (VS.take (by exact takedD) ?_) ?_
   · exact leD
   rintro ⟨ps1, td1, qu2, m⟩ ⟨hW2, hq2, htd2, hm, hM2⟩
   dsimp only at hW2 hq2 htd2 hm hM2 ⊢
   have hpl2 := hW2.wi.len
   refine jfact (t := 49) rfl fun hlj => ?_
   by_cases hml : m < g.next[i].length
   · have hm' : m < (g.nx i).length := by rw [hnx]; exact hml
     have hke : (g.nx i)[m] = g.next[i][m] := by simp only [hnx]
     have hkn := g.nx_lt hok i _ (List.getElem_mem hm')
     have hadd := fun hno hi hw => hW2.meet (fun i => g.nx_lt hok i) hm' hno hi hw
     have hskip := fun ho => hW2.skip hm' ho
     rw [hke] at hkn hadd hskip
     have hi1 := hai _ hkn
     have hw1 := haw _ hkn
     cases hg : getM ps1 (g.next[i][m] : Int) with
     | some c =>
       repeat' (first
        | ((with_reducible apply (jmkmapE (Value.int .i64) (Value.int .i64))); (focus rfl))
        | ((with_reducible apply jp); (focus ((with_reducible apply (pu_lookM0 (vv := Value.int .i64) (keyK_int .i64))); (focus rfl); (focus rfl); (focus rfl); (focus rfl); (focus (with_reducible exact ElC.h)); (focus exact memD); (focus assumption))); (focus rfl))
        | ((with_reducible apply jp); (focus ((with_reducible apply (pu_lookM2 (vv := Value.int .i64) (keyK_int .i64))); (focus rfl); (focus rfl); (focus rfl); (focus rfl); (focus (with_reducible exact ElC.h)); (focus exact memD); (focus assumption))); (focus rfl))
        | exact True.intro | refine stpA ?_ | refine two ?_ ?_
        | (refine imp fun hc => ?_) <;> try exact cx hc
        | refine all fun v_ => ?_)
       refine ⟨(ps1, td1, qu2, m + 1), ⟨hskip (.inl (by unfold isKey; rw [hg]; exact fun h => nomatch h)), hq2, htd2, hml, hM2⟩, by dsimp only; omega, VS.take (by exact takedD) ?_⟩
       exact leD
     | none =>
       cases hin2 : ins g.next[i][m] with
       | false =>
         rw [hin2] at hi1
         repeat' (first
          | ((with_reducible apply (jmkmapE (Value.int .i64) (Value.int .i64))); (focus rfl))
          | ((with_reducible apply jp); (focus ((with_reducible apply (pu_lookM0 (vv := Value.int .i64) (keyK_int .i64))); (focus rfl); (focus rfl); (focus rfl); (focus rfl); (focus (with_reducible exact ElC.h)); (focus exact memD); (focus assumption))); (focus rfl))
          | ((with_reducible apply jp); (focus ((with_reducible apply (pu_lookM2 (vv := Value.int .i64) (keyK_int .i64))); (focus rfl); (focus rfl); (focus rfl); (focus rfl); (focus (with_reducible exact ElC.h)); (focus exact memD); (focus assumption))); (focus rfl))
          | ((with_reducible apply callGV); (focus rfl); (focus rfl); (focus exact hci); (focus exact hi1); (focus exact takeD); (focus rfl); (focus exact appD))
          | exact True.intro | refine stpA ?_ | refine two ?_ ?_
          | (refine imp fun hc => ?_) <;> try exact cx hc
          | refine all fun v_ => ?_)
         refine ⟨(ps1, td1, qu2, m + 1), ⟨hskip (.inr hin2), hq2, htd2, hml, hM2⟩, by dsimp only; omega, VS.take (by exact takedD) ?_⟩
         exact leD
       | true =>
         rw [hin2] at hi1
         cases hwn : wnt g.next[i][m] with
         | false =>
           rw [hwn] at hw1
           repeat' (first
            | ((with_reducible apply (jmkmapE (Value.int .i64) (Value.int .i64))); (focus rfl))
            | ((with_reducible apply jp); (focus ((with_reducible apply (pu_lookM0 (vv := Value.int .i64) (keyK_int .i64))); (focus rfl); (focus rfl); (focus rfl); (focus rfl); (focus (with_reducible exact ElC.h)); (focus exact memD); (focus assumption))); (focus rfl))
            | ((with_reducible apply jp); (focus ((with_reducible apply (pu_lookM2 (vv := Value.int .i64) (keyK_int .i64))); (focus rfl); (focus rfl); (focus rfl); (focus rfl); (focus (with_reducible exact ElC.h)); (focus exact memD); (focus assumption))); (focus rfl))
            | ((with_reducible apply callGV); (focus rfl); (focus rfl); (focus exact hci); (focus exact hi1); (focus exact takeD); (focus rfl); (focus exact appD))
            | ((with_reducible apply callGV); (focus rfl); (focus rfl); (focus exact hcw); (focus exact hw1); (focus exact takeD); (focus rfl); (focus exact appD))
            | ((with_reducible apply (js_putMr (keyK_int .i64) (vv := Value.int .i64) (c := (i : Int)))); (focus rfl); (focus rfl); (focus rfl); (focus exact fun _ _ _ h => h); (focus rfl); (focus rfl); (focus exact updD); (focus assumption))
            | ((with_reducible apply jqu_app); (focus rfl); (focus rfl); (focus rfl); (focus (with_reducible exact ElC.h)); (focus rfl); (focus rfl); (focus assumption); (focus rfl); (focus exact bndD); (focus exact bndD); (focus exact updqD); (refine all fun qk => ?_); (refine imp fun hk => ?_))
            | exact True.intro | refine stpA ?_ | refine two ?_ ?_
            | (refine imp fun hc => ?_) <;> try exact cx hc
            | refine all fun v_ => ?_)
           refine ⟨(ps1 ++ [((g.next[i][m] : Int), (i : Int))], td1 ++ [(g.next[i][m] : Int)], qk, m + 1), ⟨hadd hg hin2 hwn, by dsimp only; rw [List.length_append, List.length_singleton]; exact hk, by dsimp only; rw [List.length_append, List.length_append, List.length_singleton, List.length_singleton]; omega, hml, by have := (hadd hg hin2 hwn).wi.len; dsimp only; rw [List.length_append, List.length_singleton] at this; rw [List.length_append, List.length_append, List.length_singleton, List.length_singleton]; omega⟩, by dsimp only; omega, VS.take (by dsimp only; exact takedD) ?_⟩
           simp only [List.length_append, List.length_singleton]
           exact leD
         | true =>
           rw [hwn] at hw1
           repeat' (first
            | ((with_reducible apply (jmkmapE (Value.int .i64) (Value.int .i64))); (focus rfl))
            | ((with_reducible apply jp); (focus ((with_reducible apply (pu_lookM0 (vv := Value.int .i64) (keyK_int .i64))); (focus rfl); (focus rfl); (focus rfl); (focus rfl); (focus (with_reducible exact ElC.h)); (focus exact memD); (focus assumption))); (focus rfl))
            | ((with_reducible apply jp); (focus ((with_reducible apply (pu_lookM2 (vv := Value.int .i64) (keyK_int .i64))); (focus rfl); (focus rfl); (focus rfl); (focus rfl); (focus (with_reducible exact ElC.h)); (focus exact memD); (focus assumption))); (focus rfl))
            | ((with_reducible apply callGV); (focus rfl); (focus rfl); (focus exact hci); (focus exact hi1); (focus exact takeD); (focus rfl); (focus exact appD))
            | ((with_reducible apply callGV); (focus rfl); (focus rfl); (focus exact hcw); (focus exact hw1); (focus exact takeD); (focus rfl); (focus exact appD))
            | ((with_reducible apply (js_putMr (keyK_int .i64) (vv := Value.int .i64) (c := (i : Int)))); (focus rfl); (focus rfl); (focus rfl); (focus exact fun _ _ _ h => h); (focus rfl); (focus rfl); (focus exact updD); (focus assumption))
            | ((with_reducible apply jqu_app); (focus rfl); (focus rfl); (focus rfl); (focus (with_reducible exact ElC.h)); (focus rfl); (focus rfl); (focus assumption); (focus rfl); (focus exact bndD); (focus exact bndD); (focus exact updqD); (refine all fun qk => ?_); (refine imp fun hk => ?_))
            | exact True.intro | refine stpA ?_ | refine two ?_ ?_
            | (refine imp fun hc => ?_) <;> try exact cx hc
            | refine all fun v_ => ?_)
           have hw2 : WI g.nx g.spots.length fr ins (ps1 ++ [((g.next[i][m] : Int), (i : Int))]) := by
            obtain ⟨j, hj, e1⟩ := isKey_at.1 (hW2.part i m rfl).1
            exact hW2.wi.add hg hkn (.inr ⟨j, hj, i, e1, rfl, by rw [← hke]; exact List.getElem_mem hm', hin2⟩)
           have hb0 : Bk g.nx g.spots.length fr ins wnt (ps1 ++ [((g.next[i][m] : Int), (i : Int))]) (ps1.length + 1) [] := Bk.start hw2 (by simp) (k := g.next[i][m]) (by simp) hwn
           have hk0 : kAt (ps1 ++ [((g.next[i][m] : Int), (i : Int))]) (ps1.length + 1) = g.next[i][m] := by rw [kAt_succ _ _ (by simp)]; simp
           have hl0 : (ps1 ++ [((g.next[i][m] : Int), (i : Int))]).length = ps1.length + 1 := by simp
           have hl2 := hw2.len
           generalize ps1 ++ [((g.next[i][m] : Int), (i : Int))] = ps2 at hw2 hb0 hl0 hl2 hk0 ⊢
           refine J_loopV (X := Nat × List Nat) (fun y => [(9, .val (.map (some bm))), (15, .int (kAt ps2 y.1)), (18, .d (intsD (castL y.2)))]) (fun y => [.raw bm (mapO (entL (Value.int .i64) (Value.int .i64) (ps2))), ea, eb, ec, ed]) (fun y => Bk g.nx g.spots.length fr ins wnt ps2 y.1 y.2 ∧ y.2.length + y.1 ≤ ps2.length) (fun y => y.1) (ps1.length + 1, []) ⟨hb0, by dsimp only [List.length_nil]; omega⟩ (VS.trans (vnil (t := 18) 1 8 rfl) (VS.take (by exact takedD) ?_)) ?_
           · rw [hk0]; exact leD
           rintro ⟨p, l⟩ ⟨hb, hpl4⟩
           dsimp only at hb hpl4 ⊢
           cases p with
           | zero =>
             rw [kAt_zero]
             repeat' (first
              | exact True.intro | refine stpA ?_ | refine two ?_ ?_
              | (refine imp fun hc => ?_) <;> try exact cx hc
              | refine all fun v_ => ?_)
             refine retv (VS.drop (h' := [ea, eb, ec, ed]) (by exact sublD)) ?_
             ((with_reducible apply rq1); rfl; rfl)
             exact ⟨⟨l, .inl (hb.fin rfl), by omega⟩, rfl, rfl⟩
           | succ j =>
             obtain ⟨k, p', hk, hgm, hp', hb'⟩ := hb.step hw2
             rw [hk]
             have hcll : (castL l).length = l.length := by simp
             refine J_seq (J_cutT (X := Unit) (fun _ => [(9, .val (.map (some bm))), (15, .int (k : Int)), (18, .d (intsD (castL l)))]) (fun _ => [.raw bm (mapO (entL (Value.int .i64) (Value.int .i64) (ps2))), ea, eb, ec, ed]) ?_ fun _ => ?_)
             · repeat' (first
                | exact True.intro | refine stpA ?_ | refine two ?_ ?_
                | (refine imp fun hc => ?_) <;> try exact cx hc
                | refine all fun v_ => ?_)
               exact ⟨(), VS.take (by exact takedD) (by exact leD)⟩
             refine J_seq (J_block (J_region ?_))
             refine jp (r := .int (k : Int)) (pu_move rfl) rfl ?_
             refine jrow_i1 rfl rfl (by (with_reducible exact ElC.h)) rfl ?_
             repeat' (first
              | ((with_reducible apply jp); (focus ((with_reducible apply (pu_lookM1 (vv := Value.int .i64) (keyK_int .i64))); (focus rfl); (focus rfl); (focus rfl); (focus rfl); (focus exact memD); (focus assumption))); (focus rfl))
              | exact True.intro | refine stpA ?_ | refine two ?_ ?_
              | (refine imp fun hc => ?_) <;> try exact cx hc
              | refine all fun v_ => ?_)
             refine ⟨(p', k :: l), ⟨hb', by dsimp only [List.length_cons]; omega⟩, by dsimp only; omega, VS.trans (vfreeze (t := 18) (eb := 8) rfl rfl (fun x => rfl) (by rw [List.length_append, hcll, List.length_singleton]; omega)) (VS.take (by exact takedD) ?_)⟩
             exact leD
   · have hmm : m = (g.nx i).length := by rw [hnx]; omega
     rw [hmm] at hW2
     have hW3 := hW2.done
     repeat' (first
      | exact True.intro | refine stpA ?_ | refine two ?_ ?_
      | (refine imp fun hc => ?_) <;> try exact cx hc
      | refine all fun v_ => ?_)
     refine ⟨(ps1, td1, qu2), ⟨hW3, hq2, htd2⟩, by dsimp only; omega, VS.take (by exact takedD) ?_⟩
     exact leD
theorem cal_lasso1 : Cal Tryz.prog 108 := Cal.of Tryz.func108 (by kernel_rfl) (by kernel_rfl)
theorem cal_lasso2 : Cal Tryz.prog 109 := Cal.of Tryz.func109 (by kernel_rfl) (by kernel_rfl)
theorem cal_lasso3 : Cal Tryz.prog 110 := Cal.of Tryz.func110 (by kernel_rfl) (by kernel_rfl)
theorem cal_lasso4 : Cal Tryz.prog 111 := Cal.of Tryz.func111 (by kernel_rfl) (by kernel_rfl)
theorem cal_lasso5 : Cal Tryz.prog 112 := Cal.of Tryz.func112 (by kernel_rfl) (by kernel_rfl)
theorem las1 (k : Nat) (ea eb ec ed : Ent) : AC Tryz.prog GP 108 [.int k] [ea, eb, ec, ed] fun r h => ∃ _ : Unit, r = .ret (.bool true) ∧ h = [ea, eb, ec, ed] := by
 refine AC_ofV (ts := [2]) Tryz.f108.ntmps Tryz.func108 rfl rfl rfl (by simp [Tryz.ntmps108]) fun W I => ?_
 repeat' (first
  | exact True.intro | refine stpH ?_ | refine two ?_ ?_ | refine allc fun c_ => ?_
  | (refine imp fun hc => ?_) <;> try exact cx1 hc
  | refine all fun v_ => ?_)
 all_goals
  refine retv0 ?_
  ((with_reducible apply rq1); rfl; rfl)
  exact ⟨(), rfl, rfl⟩
theorem las2 (home k : Nat) (bh : Nat) (eb ec ed : Ent) : AC Tryz.prog GP 109 [.int k, .val (.pointer (some ⟨bh, 0, none⟩))] [.cells bh 3 [.int home], eb, ec, ed] fun r h => ∃ _ : Unit, r = .ret (.bool (decide (k = home))) ∧ h = [.cells bh 3 [.int home], eb, ec, ed] := by
 refine AC_ofV (ts := [3]) Tryz.f109.ntmps Tryz.func109 rfl rfl rfl (by simp [Tryz.ntmps109]) fun W I => ?_
 repeat' (first
  | exact True.intro | refine stpH ?_ | refine two ?_ ?_ | refine allc fun c_ => ?_
  | (refine imp fun hc => ?_) <;> try exact cx1 hc
  | refine all fun v_ => ?_)
 all_goals
  refine retv0 ?_
  ((with_reducible apply rq1); rfl; rfl)
  exact ⟨(), by simp; omega, rfl⟩
theorem las5 (home k : Nat) (bh : Nat) (eb ec ed : Ent) : AC Tryz.prog GP 112 [.int k, .val (.pointer (some ⟨bh, 0, none⟩))] [.cells bh 3 [.int home], eb, ec, ed] fun r h => ∃ _ : Unit, r = .ret (.bool (decide (k = home))) ∧ h = [.cells bh 3 [.int home], eb, ec, ed] := by
 refine AC_ofV (ts := [3]) Tryz.f112.ntmps Tryz.func112 rfl rfl rfl (by simp [Tryz.ntmps112]) fun W I => ?_
 repeat' (first
  | exact True.intro | refine stpH ?_ | refine two ?_ ?_ | refine allc fun c_ => ?_
  | (refine imp fun hc => ?_) <;> try exact cx1 hc
  | refine all fun v_ => ?_)
 all_goals
  refine retv0 ?_
  ((with_reducible apply rq1); rfl; rfl)
  exact ⟨(), by simp; omega, rfl⟩
theorem las3 (g : Gn) (home k : Nat) (hk : k < g.spots.length) (bh bp : Nat) (ec ed : Ent) : AC Tryz.prog GP 110 [.int k, .val (.pointer (some ⟨bp, 0, none⟩)), .val (.pointer (some ⟨bh, 0, none⟩))] [.cells bh 3 [.int home], .cells bp 33 [.d (natsD (partN g))], ec, ed] fun r h => ∃ _ : Unit, r = .ret (.bool (insP g home k)) ∧ h = [.cells bh 3 [.int home], .cells bp 33 [.d (natsD (partN g))], ec, ed] := by
 have hl := partN_length g
 have hn := ni_get (partN g) k (by omega)
 refine AC_ofV (ts := [4]) Tryz.f110.ntmps Tryz.func110 rfl rfl rfl (by simp [Tryz.ntmps110]) fun W I => ?_
 repeat' (first
  | exact True.intro | refine stpH ?_ | refine two ?_ ?_ | refine allc fun c_ => ?_
  | (refine imp fun hc => ?_) <;> try exact cx1 hc
  | refine all fun v_ => ?_)
 all_goals
  refine retv0 ?_
  ((with_reducible apply rq1); rfl; rfl)
  exact ⟨(), by unfold insP; rw [hn]; simp; omega, rfl⟩
theorem las4 (g : Gn) (hok : g.ok) (bit k : Nat) (hk : k < g.spots.length) (hb : bit < 6) (bg bb : Nat) (ea eb : Ent) : AC Tryz.prog GP 111 [.int k, .val (.pointer (some ⟨bg, 0, none⟩)), .val (.pointer (some ⟨bb, 0, none⟩))] [ea, eb, .cells bg 35 [.d (opsD g.spots), .int g.init, .d (natLD g.next), .d (natsD g.sets), .int g.many], .cells bb 3 [.int bit]] fun r h => ∃ _ : Unit, r = .ret (.bool ((ni g.sets k).testBit bit)) ∧ h = [ea, eb, .cells bg 35 [.d (opsD g.spots), .int g.init, .d (natLD g.next), .d (natsD g.sets), .int g.many], .cells bb 3 [.int bit]] := by
 have hl := hok.sets
 have hn := ni_get g.sets k (by omega)
 have hs := hok.bits k (by omega)
 have hm := hok.many
 have hs' : g.sets[k] < 64 := Nat.lt_of_lt_of_le hs (by have := Nat.pow_le_pow_right (n := 2) (by decide) hm; exact this)
 have hbd := bit_div g.sets[k] bit
 refine AC_ofV (ts := [4]) Tryz.f111.ntmps Tryz.func111 rfl rfl rfl (by simp [Tryz.ntmps111]) fun W I => ?_
 repeat' (first
  | exact True.intro | refine stpH ?_ | refine two ?_ ?_ | refine allc fun c_ => ?_
  | (refine imp fun hc => ?_) <;> try exact cx1 hc
  | refine all fun v_ => ?_)
 all_goals
  refine retv0 ?_
  ((with_reducible apply rq1); rfl; rfl)
  refine ⟨(), ?_, rfl⟩
  have e1 : (bit : Int).toNat = bit := Int.toNat_natCast bit
  have e2 : (g.sets[k] : Int) / 2 ^ bit = ((g.sets[k] / 2 ^ bit : Nat) : Int) := by simp
  have e3 : g.sets[k] / 2 ^ bit ≤ g.sets[k] := Nat.div_le_self _ _
  have e4 : (ni g.sets k).testBit bit = decide ((g.sets[k] : Int) / 2 ^ bit % 2 = 1) := by
   rw [hn]
   by_cases h : g.sets[k].testBit bit = true
   · rw [h]; exact (decide_eq_true (hbd.2 h)).symm
   · rw [Bool.not_eq_true] at h
     rw [h]; exact (decide_eq_false (fun h' => by rw [hbd.1 h'] at h; cases h)).symm
  generalize g.sets[k] / 2 ^ bit = z at e2 e3
  rw [e4, e1, and1 (by rw [e2]; omega) (by rw [e2]; omega)]

abbrev visH (bs bt bv : Nat) (n : Nat) (p : List Bool × List Nat) (q : Sl) : H := [.cells bs 72 [.val (.slice (some ⟨bv, 0, none⟩) n n)], .cells bv 4 (p.1.map AV.bool), .cells bt 33 [.val q.v], rowE q.v 3 1 natC p.2]
theorem visit (G : List (Nat × List D)) (bs bt bv n i : Nat) (p : List Bool × List Nat) (q : Sl) (hn : p.1.length = n) (hi : i < n) (hl : n ≤ 20000) (hp : p.2.length ≤ 100000) :
 AC Tryz.prog G 193 [.int i, .val (.pointer (some ⟨bs, 0, none⟩)), .val (.pointer (some ⟨bt, 0, none⟩))] (visH bs bt bv n p q) fun r h => ∃ q' : Sl, r = .ret (.tup []) ∧ h = visH bs bt bv n (visitF p i) q' := by
 refine AC_of (ts := []) Tryz.f193.ntmps Tryz.func193 rfl rfl rfl (by simp [Tryz.ntmps193]) fun W I => ?_
 have hb := bi_get p.1 i (by omega)
 by_cases h : p.1[i]'(by omega) = true
 · have e : visitF p i = p := by rw [visitF, hb, if_pos h]
   rw [e]
   repeat' (first
    | exact True.intro | refine stpA ?_ | refine two ?_ ?_
    | (refine imp fun hc => ?_) <;> try exact cx hc
    | refine all fun v_ => ?_)
   · exact rq0 rfl ⟨_, rfl, rfl⟩
   · rw [h] at hc; cases hc
 · have e : visitF p i = (p.1.set i true, p.2 ++ [i]) := by rw [visitF, hb, if_neg h]
   rw [e]
   repeat' (first
    | exact True.intro | refine stpA ?_ | refine two ?_ ?_
    | (refine imp fun hc => ?_) <;> try exact cx hc
    | refine all fun v_ => ?_)
   exact rq0 rfl ⟨_, rfl, rfl⟩
theorem unseen_rep : ∀ n : Nat, unseen (List.replicate n false) = n
 | 0 => rfl
 | n + 1 => by rw [List.replicate_succ, unseen, unseen_rep n]; simp [Nat.add_comm]
theorem getC_last {α : Type} (r : List α) (v : α) (h : ((((r ++ [v]).length : Nat) : Int) - 1).toNat < (r ++ [v]).length) : (r ++ [v])[((((r ++ [v]).length : Nat) : Int) - 1).toNat] = v := by
 have e : ((((r ++ [v]).length : Nat) : Int) - 1).toNat = r.length := by simp
 simp [e]
theorem takeC_last {α : Type} (r : List α) (v : α) : (r ++ [v]).take ((((r ++ [v]).length : Nat) : Int) - 1).toNat = r := by
 have e : ((((r ++ [v]).length : Nat) : Int) - 1).toNat = r.length := by simp
 rw [e, List.take_left]
theorem armXV3_1 {p q : Prop} (hp : p) (h : p → q := by
 apply cmp; (focus (first
  | ((with_reducible apply call0); (focus rfl); (focus exact cal_SCheck); (focus exact E); (focus rfl))
  | ((with_reducible apply je_call0); (focus rfl); (focus (decide +kernel)); (focus rfl); (focus exact cal_SCheck); (focus exact E); (focus rfl))
  ))
 exact fun h => h) : q := h hp
theorem SReached (G : List (Nat × List D)) (g : Gr) : ACr Tryz.prog G 149 [grA g] (.tup [.d (boolsD (reachedOf g).1), .int (reachedOf g).2]) := by
 refine AC_ofV (ts := [2, 3]) Tryz.f149.ntmps Tryz.func149 rfl rfl rfl (by simp [Tryz.ntmps149]) fun W I => ?_
 have E := SCheck G g
 by_cases hk : ¬ okG g
 · have e : graphF g = 9 := if_neg hk
   rw [e] at E
   repeat' (first
    | refine armXV3_1 ?_
    | exact True.intro | refine stpA ?_ | refine two ?_ ?_
    | (refine imp fun hc => ?_) <;> try exact cx hc
    | refine all fun v_ => ?_)
   refine retv (VS.trans (VS.drop (List.nil_sublist _)) (vnil (t := 2) 1 1 rfl)) ?_
   ((with_reducible apply rq2); rfl; rfl; rfl)
   exact ret_eq (by rw [reachedOf_no hk]; rfl)
 obtain ⟨g, rfl, hok⟩ := okG_nat (Decidable.not_not.1 hk)
 rw [graphF_ok (Gn.ok_gr hok)] at E
 rw [gnA_eq] at E ⊢
 clear hk
 have hs := hok.size
 have hi0 := hok.init
 have hnl := hok.next
 repeat' (first
  | refine armXV3_1 ?_
  | exact True.intro | refine stpA ?_ | refine two ?_ ?_
  | (refine imp fun hc => ?_) <;> try exact cx hc
  | refine all fun v_ => ?_)
 rename_i bg bv bs
 rename Nat => bt
 refine jrow (E := 3) (sz := 1) natC ?_
 refine J_loopV (X := (List Bool × List Nat) × Sl × Nat) (fun y => [(1, .val (.pointer (some ⟨bg, 0, none⟩))), (5, .val (.pointer (some ⟨bs, 0, none⟩))), (6, .val (.pointer (some ⟨bt, 0, none⟩))), (7, .val (.func (.func 193) #[] #[.pointer (some ⟨bs, 0, none⟩), .pointer (some ⟨bt, 0, none⟩)])), (23, .int g.init), (24, .int y.2.2)]) (fun y => [.cells bs 72 [.val (.slice (some ⟨bv, 0, none⟩) g.spots.length g.spots.length)], .cells bv 4 (y.1.1.map AV.bool), .cells bt 33 [.val y.2.1.v], rowE y.2.1.v 3 1 natC y.1.2, .cells bg 35 [.d (opsD g.spots), .int g.init, .d (natLD g.next), .d (natsD g.sets), .int g.many]]) (fun y => RI g none y.2.2 y.1 ∧ y.2.2 ≤ g.init ∧ muR y.1 ≤ 2 * g.spots.length) (fun y => g.init - y.2.2) ((List.replicate g.spots.length false, []), Sl.nil, 0) ⟨RI.start g, Nat.zero_le _, ?_⟩ (VS.take (by exact takeD) ?_) ?_
 · simp [muR, unseen_rep]
 · exact leD
 rintro ⟨p, q, i⟩ ⟨h1, h2, h3⟩
 dsimp only at h1 h2 h3 ⊢
 have hp := h1.len
 have hp2 : p.2.length ≤ 100000 := by unfold muR at h3; omega
 by_cases hi : i < g.init
 · have hin : i < g.spots.length := by omega
   repeat' (first
    | ((with_reducible apply callGV); (focus rfl); (focus rfl); (focus exact cal_visit); (focus exact visit _ bs bt bv _ i p q hp hin hs hp2); (focus exact takeD); (focus rfl); (focus exact appD))
    | exact True.intro | refine stpA ?_ | refine two ?_ ?_
    | (refine imp fun hc => ?_) <;> try exact cx hc
    | refine all fun v_ => ?_)
   have hm := visit_mu (p := p) (i := i) (by omega)
   refine ⟨(visitF p i, v_, i + 1), ⟨h1.initStep hok hi, by dsimp only; omega, by dsimp only; omega⟩, by dsimp only; omega, VS.of_le ?_⟩
   exact leD
 obtain rfl : i = g.init := by omega
 repeat' (first
  | exact True.intro | refine stpA ?_ | refine two ?_ ?_
  | (refine imp fun hc => ?_) <;> try exact cx hc
  | refine all fun v_ => ?_)
 refine J_loopV (X := (List Bool × List Nat) × Sl) (fun y => [(1, .val (.pointer (some ⟨bg, 0, none⟩))), (5, .val (.pointer (some ⟨bs, 0, none⟩))), (6, .val (.pointer (some ⟨bt, 0, none⟩))), (7, .val (.func (.func 193) #[] #[.pointer (some ⟨bs, 0, none⟩), .pointer (some ⟨bt, 0, none⟩)]))]) (fun y => [.cells bs 72 [.val (.slice (some ⟨bv, 0, none⟩) g.spots.length g.spots.length)], .cells bv 4 (y.1.1.map AV.bool), .cells bt 33 [.val y.2.v], rowE y.2.v 3 1 natC y.1.2, .cells bg 35 [.d (opsD g.spots), .int g.init, .d (natLD g.next), .d (natsD g.sets), .int g.many]]) (fun y => RI g none g.init y.1 ∧ muR y.1 ≤ 2 * g.spots.length) (fun y => muR y.1) (p, q) ⟨h1, h3⟩ (VS.of_le ?_) ?_
 · exact leD
 clear h1 h3 hp hp2 hi h2
 rintro ⟨⟨s, td⟩, q⟩ ⟨h1, h3⟩
 dsimp only at h1 h3 ⊢
 have hp := h1.len
 have hp2 : td.length ≤ 100000 := by unfold muR at h3; dsimp only at h3; omega
 rcases List.eq_nil_or_concat td with e | ⟨r, v, e⟩
 · subst e
   repeat' (first
    | exact True.intro | refine stpA ?_ | refine two ?_ ?_
    | (refine imp fun hc => ?_) <;> try exact cx hc
    | refine all fun v_ => ?_)
   refine retv (VS.trans (VS.drop (h' := [.cells bv 4 (s.map AV.bool)]) (by exact sublD)) (vfz (t := 2) (f := boolC) (h1 := []) 1 1 rfl rfl rfl (bools_flat s) hp (fun _ => rfl) (by omega) (by omega))) ?_
   ((with_reducible apply rq2); rfl; rfl; rfl)
   exact ret_eq (by rw [reachedOf_ok hok, ← h1.all rfl])
 · rw [List.concat_eq_append] at e
   subst e
   have hv := h1.todo v (by simp)
   have hvn : v < g.next.length := by omega
   have hlr : ((r ++ [v]).length : Int) = r.length + 1 := by simp
   repeat' (first
    | exact True.intro | refine stpA ?_ | refine two ?_ ?_
    | (refine imp fun hc => ?_) <;> try exact cx hc
    | refine all fun v_ => ?_)
   simp only [getC_last, takeC_last]
   repeat' (first
    | exact True.intro | refine stpA ?_ | refine two ?_ ?_
    | (refine imp fun hc => ?_) <;> try exact cx hc
    | refine all fun v_ => ?_)
   have h1' := h1.pop (v := v) (r := r) rfl
   have hm1 : muR (s, r) < muR (s, r ++ [v]) := by simp [muR]
   have hnx := g.nx_get v hvn
   refine J_loopV (X := (List Bool × List Nat) × Sl × Nat) (fun y => [(1, .val (.pointer (some ⟨bg, 0, none⟩))), (5, .val (.pointer (some ⟨bs, 0, none⟩))), (6, .val (.pointer (some ⟨bt, 0, none⟩))), (7, .val (.func (.func 193) #[] #[.pointer (some ⟨bs, 0, none⟩), .pointer (some ⟨bt, 0, none⟩)])), (49, .d (natsD g.next[v])), (50, .int g.next[v].length), (51, .int y.2.2)]) (fun y => [.cells bs 72 [.val (.slice (some ⟨bv, 0, none⟩) g.spots.length g.spots.length)], .cells bv 4 (y.1.1.map AV.bool), .cells bt 33 [.val y.2.1.v], rowE y.2.1.v 3 1 natC y.1.2, .cells bg 35 [.d (opsD g.spots), .int g.init, .d (natLD g.next), .d (natsD g.sets), .int g.many]]) (fun y => RI g (some (v, y.2.2)) g.init y.1 ∧ bi y.1.1 v = true ∧ y.2.2 ≤ g.next[v].length ∧ muR y.1 ≤ muR (s, r)) (fun y => g.next[v].length - y.2.2) ((s, r), v_, 0) ⟨h1', hv.2, Nat.zero_le _, Nat.le_refl _⟩ (VS.of_le ?_) ?_
   · exact leD
   rintro ⟨p, q, j⟩ ⟨k1, k2, k3, k4⟩
   dsimp only at k1 k2 k3 k4 ⊢
   refine jfact (t := 49) rfl fun hlj => ?_
   have hpl := k1.len
   have hp3 : p.2.length ≤ 100000 := by
    have h5 : muR p ≤ 2 * g.spots.length := by omega
    unfold muR at h5; omega
   by_cases hj : j < g.next[v].length
   · have hj' : j < (g.nx v).length := by rw [hnx]; exact hj
     have hke : (g.nx v)[j] = g.next[v][j] := by simp only [hnx]
     have hkn := g.nx_lt hok v _ (List.getElem_mem hj')
     have ke := k1.edge hok k2 hj'
     rw [hke] at hkn ke
     repeat' (first
      | ((with_reducible apply callGV); (focus rfl); (focus rfl); (focus exact cal_visit); (focus exact visit _ bs bt bv _ g.next[v][j] p q hpl hkn hs hp3); (focus exact takeD); (focus rfl); (focus exact appD))
      | exact True.intro | refine stpA ?_ | refine two ?_ ?_
      | (refine imp fun hc => ?_) <;> try exact cx hc
      | refine all fun v_ => ?_)
     have hm := visit_mu (p := p) (i := g.next[v][j]) (by omega)
     refine ⟨(visitF p g.next[v][j], v_, j + 1), ⟨ke, visit_keeps (by omega) k2, by dsimp only; omega, by dsimp only; omega⟩, by dsimp only; omega, VS.of_le ?_⟩
     exact leD
   · have ej : j = (g.nx v).length := by rw [hnx]; omega
     rw [ej] at k1
     repeat' (first
      | exact True.intro | refine stpA ?_ | refine two ?_ ?_
      | (refine imp fun hc => ?_) <;> try exact cx hc
      | refine all fun v_ => ?_)
     refine ⟨(p, q), ⟨k1.done, by dsimp only; omega⟩, by dsimp only; omega, VS.of_le ?_⟩
     exact leD
end Go.Proofs.YtniklgkoiaeipaaGreatDoor
