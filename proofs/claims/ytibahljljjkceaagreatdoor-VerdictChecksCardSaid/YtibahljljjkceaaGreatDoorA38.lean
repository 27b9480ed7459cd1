/- A bundle of this claim's own texts: V10 G21 V11. -/
import Derived.Test.YtibahljljjkceaaGreatDoorA13
import Derived.Test.YtibahljljjkceaaGreatDoorA31
import Derived.Test.YtibahljljjkceaaGreatDoorA37
set_option linter.unusedVariables false
set_option linter.unusedSimpArgs false
set_option maxRecDepth 100000
set_option maxHeartbeats 4000000
namespace Go.Proofs.YtibahljljjkceaaGreatDoor
open Go Go.Av Go.Sp
theorem Nv : Cal Tryz.prog 63 := Cal.of Tryz.func63 (by kernel_rfl) (by kernel_rfl)
abbrev A6 (l : List Nat) : List Int := l.map fun k : Nat => (k : Int)
theorem way (g : Gn) (hok : g.ok) (fr : List Nat) (ins wnt : Nat → Bool) (fi fw : FuncId) (ci cw : Array Value) (ea eb ec ed : Ent) (hci : Cal Tryz.prog fi) (hcw : Cal Tryz.prog fw)
 (hai : ∀ k : Nat, k < g.spots.length → AC Tryz.prog GP fi ([.int k] ++ ci.toList.map AV.val) [ea, eb, ec, ed] fun r h => ∃ _ : Unit, r = .ret (.bool (ins k)) ∧ h = [ea, eb, ec, ed])
 (haw : ∀ k : Nat, k < g.spots.length → AC Tryz.prog GP fw ([.int k] ++ cw.toList.map AV.val) [ea, eb, ec, ed] fun r h => ∃ _ : Unit, r = .ret (.bool (wnt k)) ∧ h = [ea, eb, ec, ed])
 (hne : fr ≠ []) (hnd : fr.Nodup) (hfr : ∀ k ∈ fr, k < g.spots.length) :
 AC Tryz.prog GP 63 [gnA g, .d (AK (A6 fr)), .val (.func (.func fi) #[] ci), .val (.func (.func fw) #[] cw)] [ea, eb, ec, ed] fun r h => ∃ v : {l : List Nat // SZ g.nx g.spots.length fr ins wnt l ∧ l.length ≤ g.spots.length}, r = .ret (.d (AK (A6 v.1))) ∧ h = [ea, eb, ec, ed] := by
 have hsz := hok.size
 have hnl := hok.next
 have hto := fun i => g.nx_lt hok i
 refine AN (ts := [8]) Tryz.f63.ntmps Tryz.func63 rfl rfl rfl (by simp [Tryz.ntmps63]) fun W I => ?_
 have hfl : fr.length ≤ g.spots.length := by
  have h1 := (WI.nil g.nx g.spots.length fr ins)
  have key : ∀ (m : Nat) (xs : List Nat), xs.Nodup → (∀ x ∈ xs, x < m) → xs.length ≤ m := by
   intro m
   induction m with
   | zero =>
     intro xs _ h
     cases xs with
     | nil => exact Nat.le_refl _
     | cons x _ => have := h x List.mem_cons_self; omega
   | succ m ih =>
     intro xs hn h
     have i1 := ih (xs.erase m) (hn.erase _) fun x hx => by
      have h1 := h x (List.mem_of_mem_erase hx)
      have h2 : x ≠ m := fun e => by subst e; exact (List.Nodup.not_mem_erase hn) hx
      omega
     have := List.length_erase (a := m) (l := xs)
     split at this <;> omega
  exact key _ fr hnd hfr
 have hcl : (A6 fr).length = fr.length := by simp
 refine C4 (E := 3) (sz := 1) AW ?_
 repeat' (first
  | ((with_reducible apply (DN (Value.int .i64) (Value.int .i64))); (focus rfl))
  | ((with_reducible apply jp); (focus ((with_reducible apply (GO (vv := Value.int .i64) (AX .i64))); (focus rfl); (focus rfl); (focus rfl); (focus rfl); (focus (with_reducible exact ElC.h)); (focus exact Az); (focus assumption))); (focus rfl))
  | ((with_reducible apply jp); (focus ((with_reducible apply (GR (vv := Value.int .i64) (AX .i64))); (focus rfl); (focus rfl); (focus rfl); (focus rfl); (focus (with_reducible exact ElC.h)); (focus exact Az); (focus assumption))); (focus rfl))
  | exact True.intro | refine AR ?_ | refine two ?_ ?_
  | (refine imp fun hc => ?_) <;> try exact cx hc
  | refine all fun v_ => ?_)
 obtain ⟨q, rfl⟩ : ∃ x, x = v_ := ⟨v_, rfl⟩
 obtain ⟨bm, rfl⟩ : ∃ x, x = v_ := ⟨v_, rfl⟩
 obtain ⟨bx, rfl⟩ : ∃ x, x = v_ := ⟨v_, rfl⟩
 refine AG (X := Nat) (fun i => [(2, .val (.func (.func fi) #[] ci)), (3, .val (.func (.func fw) #[] cw)), (4, .val (.pointer (some ⟨bx, 0, none⟩))), (9, .val (.map (some bm))), (10, .val q.v), (22, .d (AK (A6 fr))), (23, .int fr.length), (24, .int i)]) (fun i => [.raw bm (BE (Af (Value.int .i64) (Value.int .i64) ((fr.take i).map fun k : Nat => ((k : Int), (-1 : Int))))), AM q.v 3 1 AW (A6 fr), .cells bx 136 [.d (AO g.spots), .int g.init, .d (As g.next), .d (AT g.sets), .int g.many], ea, eb, ec, ed]) (fun i => i ≤ fr.length ∧ ∀ k ∈ fr.take i, wnt k = false) (fun i => fr.length - i) 0 ⟨Nat.zero_le _, fun k hk => (by cases hk)⟩ (VS.take (by exact AI) ?_) ?_
 · exact leD
 rintro i ⟨hi, hun⟩
 by_cases hil : i < fr.length
 · have hlt := hfr _ (List.getElem_mem hil)
   have hci' : (A6 fr)[i]'(by omega) = (fr[i] : Int) := by simp
   have hw := haw fr[i] hlt
   rw [← hci'] at hw
   have hno : getM ((fr.take i).map fun k : Nat => ((k : Int), (-1 : Int))) ((A6 fr)[i]'(by omega)) = none := by
    rw [hci', getM_none]
    intro p hp e
    obtain ⟨k, hk, rfl⟩ := List.mem_map.1 hp
    obtain ⟨j, hj, rfl⟩ := List.getElem_of_mem hk
    rw [List.getElem_take] at e
    rw [List.length_take] at hj
    have := List.pairwise_iff_getElem.1 hnd j i (by omega) hil (by omega)
    exact this (by dsimp only at e; omega)
   have hps : (fr.take (i + 1)).map (fun k : Nat => ((k : Int), (-1 : Int))) = ((fr.take i).map fun k : Nat => ((k : Int), (-1 : Int))) ++ [((A6 fr)[i]'(by omega), (-1 : Int))] := by
    rw [List.take_succ_eq_append_getElem hil, List.map_append, hci']; rfl
   cases hwk : wnt fr[i] with
   | true =>
     rw [hwk] at hw
     repeat' (first
      | ((with_reducible apply (HV (AX .i64) (vv := Value.int .i64) (c := -1))); (focus rfl); (focus rfl); (focus rfl); (focus exact fun _ _ _ h => h); (focus rfl); (focus rfl); (focus exact CV); (focus assumption))
      | ((with_reducible apply DD); (focus rfl); (focus rfl); (focus exact hcw); (focus exact hw); (focus exact Ap); (focus rfl); (focus exact C5))
      | exact True.intro | refine AR ?_ | refine two ?_ ?_
      | (refine imp fun hc => ?_) <;> try exact cx hc
      | refine all fun v_ => ?_)
     refine AH (VS.drop (h' := [ea, eb, ec, ed]) (by exact Hs)) ?_
     ((with_reducible apply rq1); rfl; rfl)
     refine ⟨⟨[fr[i]], SZ.one (List.getElem_mem hil) hlt hwk, by rw [List.length_singleton]; omega⟩, ?_, rfl⟩
     rw [hci']; rfl
   | false =>
     rw [hwk] at hw
     repeat' (first
      | ((with_reducible apply (HV (AX .i64) (vv := Value.int .i64) (c := -1))); (focus rfl); (focus rfl); (focus rfl); (focus exact fun _ _ _ h => h); (focus rfl); (focus rfl); (focus exact CV); (focus assumption))
      | ((with_reducible apply DD); (focus rfl); (focus rfl); (focus exact hcw); (focus exact hw); (focus exact Ap); (focus rfl); (focus exact C5))
      | exact True.intro | refine AR ?_ | refine two ?_ ?_
      | (refine imp fun hc => ?_) <;> try exact cx hc
      | refine all fun v_ => ?_)
     refine ⟨i + 1, ⟨by omega, fun k hk => ?_⟩, by omega, VS.take (by rw [hps]; exact AI) ?_⟩
     · rw [List.take_succ_eq_append_getElem hil] at hk
       rcases List.mem_append.1 hk with h | h
       · exact hun k h
       · rw [List.mem_singleton.1 h]; exact hwk
     · exact leD
 obtain rfl : i = fr.length := by omega
 rw [List.take_length] at hun ⊢
 have hW0 : WS g.nx g.spots.length fr ins wnt (fr.map fun k : Nat => ((k : Int), (-1 : Int))) (A6 fr) none := WS.start hnd hfr hun
 have hfl0 : 0 < (A6 fr).length := by rw [hcl]; exact List.length_pos_iff.2 hne
 refine X8 (h1 := [_]) hfl0 fun qu hqo hqv => ?_
 rw [hqv]
 rw [hcl] at hqo ⊢
 repeat' (first
  | exact True.intro | refine AR ?_ | refine two ?_ ?_
  | (refine imp fun hc => ?_) <;> try exact cx hc
  | refine all fun v_ => ?_)
 refine AG (X := List (Int × Int) × List Int × Qu) (fun y => [(2, .val (.func (.func fi) #[] ci)), (3, .val (.func (.func fw) #[] cw)), (4, .val (.pointer (some ⟨bx, 0, none⟩))), (9, .val (.map (some bm))), (10, .val (y.2.2.v y.2.1.length))]) (fun y => [.raw bm (BE (Af (Value.int .i64) (Value.int .i64) (y.1))), quE 3 y.2.2 y.2.1, .cells bx 136 [.d (AO g.spots), .int g.init, .d (As g.next), .d (AT g.sets), .int g.many], ea, eb, ec, ed]) (fun y => WS g.nx g.spots.length fr ins wnt y.1 y.2.1 none ∧ y.2.2.Ok y.2.1.length ∧ y.2.1.length ≤ y.1.length) (fun y => 2 * (g.spots.length - y.1.length) + y.2.1.length) (_, A6 fr, qu) ⟨hW0, by rw [hcl]; exact hqo, by rw [hcl, List.length_map]; exact Nat.le_refl _⟩ (VS.take (by exact AI) ?_) ?_
 · rw [hcl]; exact leD
 rintro ⟨ps, td, qu⟩ ⟨hW, hqo, htd⟩
 dsimp only at hW hqo htd ⊢
 have hpl := hW.wi.len
 cases td with
 | nil =>
   dsimp only [List.length_nil] at hqo htd ⊢
   repeat' (first
    | exact True.intro | refine AR ?_ | refine two ?_ ?_
    | (refine imp fun hc => ?_) <;> try exact cx hc
    | refine all fun v_ => ?_)
   refine AH (VS.trans (VS.drop (h' := [ea, eb, ec, ed]) (by exact Hs)) (Cn (t := 8) 1 8 rfl)) ?_
   ((with_reducible apply rq1); rfl; rfl)
   exact ⟨⟨[], .inr ⟨rfl, hW.noway⟩, Nat.zero_le _⟩, rfl, rfl⟩
 | cons y td =>
   obtain ⟨i, rfl, hik⟩ := hW.todo y List.mem_cons_self
   obtain ⟨i0, hi0, ei⟩ := GL.1 hik
   obtain ⟨i', ei', hin, _⟩ := hW.wi.key i0 hi0
   obtain rfl : i = i' := by omega
   have hnx := g.nx_get i (by omega)
   dsimp only [List.length_cons] at hqo htd ⊢
   have hh := Xn qu (i : Int) td hqo
   have hq1 : (qu.tl (i : Int)).Ok td.length := hqo.tl
   obtain ⟨M, hM⟩ : ∃ M, M = 2 * (g.spots.length - ps.length) + td.length := ⟨_, rfl⟩
   have hW1 := hW.pop
   repeat' (first
    | ((with_reducible apply jp); (focus ((with_reducible apply Tv); (focus rfl); (focus rfl); (focus rfl); (focus (with_reducible exact ElC.h)); (focus omega))); (focus rfl))
    | ((with_reducible apply jp); (focus ((with_reducible apply (VK (i : Int))); (focus rfl); (focus rfl); (focus rfl); (focus (with_reducible exact ElC.h)); (focus assumption))); (focus rfl))
    | exact True.intro | refine AR ?_ | refine two ?_ ?_
    | (refine imp fun hc => ?_) <;> try exact cx hc
    | refine all fun v_ => ?_)
   rw [← ZP 3 qu (i : Int) td hqo]
   generalize qu.tl (i : Int) = qu1 at hq1 ⊢
   refine AG (X := List (Int × Int) × List Int × Qu × Nat) (fun y => [(2, .val (.func (.func fi) #[] ci)), (3, .val (.func (.func fw) #[] cw)), (4, .val (.pointer (some ⟨bx, 0, none⟩))), (9, .val (.map (some bm))), (10, .val (y.2.2.1.v y.2.1.length)), (13, .int i), (49, .d (AT g.next[i])), (50, .int g.next[i].length), (51, .int y.2.2.2)]) (fun y => [.raw bm (BE (Af (Value.int .i64) (Value.int .i64) (y.1))), quE 3 y.2.2.1 y.2.1, .cells bx 136 [.d (AO g.spots), .int g.init, .d (As g.next), .d (AT g.sets), .int g.many], ea, eb, ec, ed]) (fun y => WS g.nx g.spots.length fr ins wnt y.1 y.2.1 (some (i, y.2.2.2)) ∧ y.2.2.1.Ok y.2.1.length ∧ y.2.1.length ≤ y.1.length ∧ y.2.2.2 ≤ g.next[i].length ∧ 2 * (g.spots.length - y.1.length) + y.2.1.length ≤ M) (fun y => g.next[i].length - y.2.2.2) (ps, td, qu1, 0) ⟨hW1, hq1, by dsimp only; omega, Nat.zero_le _, by dsimp only; omega⟩ (VS.take (by exact AI) ?_) ?_
   · exact leD
   rintro ⟨ps1, td1, qu2, m⟩ ⟨hW2, hq2, htd2, hm, hM2⟩
   dsimp only at hW2 hq2 htd2 hm hM2 ⊢
   have hpl2 := hW2.wi.len
   refine Bs (t := 49) rfl fun hlj => ?_
   by_cases hml : m < g.next[i].length
   · have hm' : m < (g.nx i).length := by rw [hnx]; exact hml
     have hke : (g.nx i)[m] = g.next[i][m] := by simp only [hnx]
     have hkn := g.nx_lt hok i _ (List.getElem_mem hm')
     have hadd := fun hno hi hw => hW2.meet (fun i => g.nx_lt hok i) hm' hno hi hw
     have hskip := fun ho => hW2.skip hm' ho
     rw [hke] at hkn hadd hskip
     have hi1 := hai _ hkn
     have hw1 := haw _ hkn
     cases hg : getM ps1 (g.next[i][m] : Int) with
     | some c =>
       repeat' (first
        | ((with_reducible apply (DN (Value.int .i64) (Value.int .i64))); (focus rfl))
        | ((with_reducible apply jp); (focus ((with_reducible apply (GO (vv := Value.int .i64) (AX .i64))); (focus rfl); (focus rfl); (focus rfl); (focus rfl); (focus (with_reducible exact ElC.h)); (focus exact Az); (focus assumption))); (focus rfl))
        | ((with_reducible apply jp); (focus ((with_reducible apply (GR (vv := Value.int .i64) (AX .i64))); (focus rfl); (focus rfl); (focus rfl); (focus rfl); (focus (with_reducible exact ElC.h)); (focus exact Az); (focus assumption))); (focus rfl))
        | exact True.intro | refine AR ?_ | refine two ?_ ?_
        | (refine imp fun hc => ?_) <;> try exact cx hc
        | refine all fun v_ => ?_)
       refine ⟨(ps1, td1, qu2, m + 1), ⟨hskip (.inl (by unfold isKey; rw [hg]; exact fun h => nomatch h)), hq2, htd2, hml, hM2⟩, by dsimp only; omega, VS.take (by exact AI) ?_⟩
       exact leD
     | none =>
       cases hin2 : ins g.next[i][m] with
       | false =>
         rw [hin2] at hi1
         repeat' (first
          | ((with_reducible apply (DN (Value.int .i64) (Value.int .i64))); (focus rfl))
          | ((with_reducible apply jp); (focus ((with_reducible apply (GO (vv := Value.int .i64) (AX .i64))); (focus rfl); (focus rfl); (focus rfl); (focus rfl); (focus (with_reducible exact ElC.h)); (focus exact Az); (focus assumption))); (focus rfl))
          | ((with_reducible apply jp); (focus ((with_reducible apply (GR (vv := Value.int .i64) (AX .i64))); (focus rfl); (focus rfl); (focus rfl); (focus rfl); (focus (with_reducible exact ElC.h)); (focus exact Az); (focus assumption))); (focus rfl))
          | ((with_reducible apply DD); (focus rfl); (focus rfl); (focus exact hci); (focus exact hi1); (focus exact Ap); (focus rfl); (focus exact C5))
          | exact True.intro | refine AR ?_ | refine two ?_ ?_
          | (refine imp fun hc => ?_) <;> try exact cx hc
          | refine all fun v_ => ?_)
         refine ⟨(ps1, td1, qu2, m + 1), ⟨hskip (.inr hin2), hq2, htd2, hml, hM2⟩, by dsimp only; omega, VS.take (by exact AI) ?_⟩
         exact leD
       | true =>
         rw [hin2] at hi1
         cases hwn : wnt g.next[i][m] with
         | false =>
           rw [hwn] at hw1
           repeat' (first
            | ((with_reducible apply (DN (Value.int .i64) (Value.int .i64))); (focus rfl))
            | ((with_reducible apply jp); (focus ((with_reducible apply (GO (vv := Value.int .i64) (AX .i64))); (focus rfl); (focus rfl); (focus rfl); (focus rfl); (focus (with_reducible exact ElC.h)); (focus exact Az); (focus assumption))); (focus rfl))
            | ((with_reducible apply jp); (focus ((with_reducible apply (GR (vv := Value.int .i64) (AX .i64))); (focus rfl); (focus rfl); (focus rfl); (focus rfl); (focus (with_reducible exact ElC.h)); (focus exact Az); (focus assumption))); (focus rfl))
            | ((with_reducible apply DD); (focus rfl); (focus rfl); (focus exact hci); (focus exact hi1); (focus exact Ap); (focus rfl); (focus exact C5))
            | ((with_reducible apply DD); (focus rfl); (focus rfl); (focus exact hcw); (focus exact hw1); (focus exact Ap); (focus rfl); (focus exact C5))
            | ((with_reducible apply (HV (AX .i64) (vv := Value.int .i64) (c := (i : Int)))); (focus rfl); (focus rfl); (focus rfl); (focus exact fun _ _ _ h => h); (focus rfl); (focus rfl); (focus exact CV); (focus assumption))
            | ((with_reducible apply Rr); (focus rfl); (focus rfl); (focus rfl); (focus (with_reducible exact ElC.h)); (focus rfl); (focus rfl); (focus assumption); (focus rfl); (focus exact BI); (focus exact BI); (focus exact Db); (refine all fun qk => ?_); (refine imp fun hk => ?_))
            | exact True.intro | refine AR ?_ | refine two ?_ ?_
            | (refine imp fun hc => ?_) <;> try exact cx hc
            | refine all fun v_ => ?_)
           refine ⟨(ps1 ++ [((g.next[i][m] : Int), (i : Int))], td1 ++ [(g.next[i][m] : Int)], qk, m + 1), ⟨hadd hg hin2 hwn, by dsimp only; rw [List.length_append, List.length_singleton]; exact hk, by dsimp only; rw [List.length_append, List.length_append, List.length_singleton, List.length_singleton]; omega, hml, by have := (hadd hg hin2 hwn).wi.len; dsimp only; rw [List.length_append, List.length_singleton] at this; rw [List.length_append, List.length_append, List.length_singleton, List.length_singleton]; omega⟩, by dsimp only; omega, VS.take (by dsimp only; exact AI) ?_⟩
           simp only [List.length_append, List.length_singleton]
           exact leD
         | true =>
           rw [hwn] at hw1
           repeat' (first
            | ((with_reducible apply (DN (Value.int .i64) (Value.int .i64))); (focus rfl))
            | ((with_reducible apply jp); (focus ((with_reducible apply (GO (vv := Value.int .i64) (AX .i64))); (focus rfl); (focus rfl); (focus rfl); (focus rfl); (focus (with_reducible exact ElC.h)); (focus exact Az); (focus assumption))); (focus rfl))
            | ((with_reducible apply jp); (focus ((with_reducible apply (GR (vv := Value.int .i64) (AX .i64))); (focus rfl); (focus rfl); (focus rfl); (focus rfl); (focus (with_reducible exact ElC.h)); (focus exact Az); (focus assumption))); (focus rfl))
            | ((with_reducible apply DD); (focus rfl); (focus rfl); (focus exact hci); (focus exact hi1); (focus exact Ap); (focus rfl); (focus exact C5))
            | ((with_reducible apply DD); (focus rfl); (focus rfl); (focus exact hcw); (focus exact hw1); (focus exact Ap); (focus rfl); (focus exact C5))
            | ((with_reducible apply (HV (AX .i64) (vv := Value.int .i64) (c := (i : Int)))); (focus rfl); (focus rfl); (focus rfl); (focus exact fun _ _ _ h => h); (focus rfl); (focus rfl); (focus exact CV); (focus assumption))
            | ((with_reducible apply Rr); (focus rfl); (focus rfl); (focus rfl); (focus (with_reducible exact ElC.h)); (focus rfl); (focus rfl); (focus assumption); (focus rfl); (focus exact BI); (focus exact BI); (focus exact Db); (refine all fun qk => ?_); (refine imp fun hk => ?_))
            | exact True.intro | refine AR ?_ | refine two ?_ ?_
            | (refine imp fun hc => ?_) <;> try exact cx hc
            | refine all fun v_ => ?_)
           have hw2 : WI g.nx g.spots.length fr ins (ps1 ++ [((g.next[i][m] : Int), (i : Int))]) := by
            obtain ⟨j, hj, e1⟩ := GL.1 (hW2.part i m rfl).1
            exact hW2.wi.add hg hkn (.inr ⟨j, hj, i, e1, rfl, by rw [← hke]; exact List.getElem_mem hm', hin2⟩)
           have hb0 : Bk g.nx g.spots.length fr ins wnt (ps1 ++ [((g.next[i][m] : Int), (i : Int))]) (ps1.length + 1) [] := Bk.start hw2 (by simp) (k := g.next[i][m]) (by simp) hwn
           have hk0 : kAt (ps1 ++ [((g.next[i][m] : Int), (i : Int))]) (ps1.length + 1) = g.next[i][m] := by rw [JG _ _ (by simp)]; simp
           have hl0 : (ps1 ++ [((g.next[i][m] : Int), (i : Int))]).length = ps1.length + 1 := by simp
           have hl2 := hw2.len
           generalize ps1 ++ [((g.next[i][m] : Int), (i : Int))] = ps2 at hw2 hb0 hl0 hl2 hk0 ⊢
           refine AG (X := Nat × List Nat) (fun y => [(9, .val (.map (some bm))), (15, .int (kAt ps2 y.1)), (18, .d (AK (A6 y.2)))]) (fun y => [.raw bm (BE (Af (Value.int .i64) (Value.int .i64) (ps2))), ea, eb, ec, ed]) (fun y => Bk g.nx g.spots.length fr ins wnt ps2 y.1 y.2 ∧ y.2.length + y.1 ≤ ps2.length) (fun y => y.1) (ps1.length + 1, []) ⟨hb0, by dsimp only [List.length_nil]; omega⟩ (VS.trans (Cn (t := 18) 1 8 rfl) (VS.take (by exact AI) ?_)) ?_
           · rw [hk0]; exact leD
           rintro ⟨p, l⟩ ⟨hb, hpl4⟩
           dsimp only at hb hpl4 ⊢
           cases p with
           | zero =>
             rw [VH]
             repeat' (first
              | exact True.intro | refine AR ?_ | refine two ?_ ?_
              | (refine imp fun hc => ?_) <;> try exact cx hc
              | refine all fun v_ => ?_)
             refine AH (VS.drop (h' := [ea, eb, ec, ed]) (by exact Hs)) ?_
             ((with_reducible apply rq1); rfl; rfl)
             exact ⟨⟨l, .inl (hb.fin rfl), by omega⟩, rfl, rfl⟩
           | succ j =>
             obtain ⟨k, p', hk, hgm, hp', hb'⟩ := hb.step hw2
             rw [hk]
             have hcll : (A6 l).length = l.length := by simp
             refine Iz (LG (X := Unit) (fun _ => [(9, .val (.map (some bm))), (15, .int (k : Int)), (18, .d (AK (A6 l)))]) (fun _ => [.raw bm (BE (Af (Value.int .i64) (Value.int .i64) (ps2))), ea, eb, ec, ed]) ?_ fun _ => ?_)
             · repeat' (first
                | exact True.intro | refine AR ?_ | refine two ?_ ?_
                | (refine imp fun hc => ?_) <;> try exact cx hc
                | refine all fun v_ => ?_)
               exact ⟨(), VS.take (by exact AI) (by exact leD)⟩
             refine Iz (Rs (Kt ?_))
             refine jp (r := .int (k : Int)) (Rj rfl) rfl ?_
             refine SN rfl rfl (by (with_reducible exact ElC.h)) rfl ?_
             repeat' (first
              | ((with_reducible apply jp); (focus ((with_reducible apply (Dj (vv := Value.int .i64) (AX .i64))); (focus rfl); (focus rfl); (focus rfl); (focus rfl); (focus exact Az); (focus assumption))); (focus rfl))
              | exact True.intro | refine AR ?_ | refine two ?_ ?_
              | (refine imp fun hc => ?_) <;> try exact cx hc
              | refine all fun v_ => ?_)
             refine ⟨(p', k :: l), ⟨hb', by dsimp only [List.length_cons]; omega⟩, by dsimp only; omega, VS.trans (Bf (t := 18) (eb := 8) rfl rfl (fun x => rfl) (by rw [List.length_append, hcll, List.length_singleton]; omega)) (VS.take (by exact AI) ?_)⟩
             exact leD
   · have hmm : m = (g.nx i).length := by rw [hnx]; omega
     rw [hmm] at hW2
     have hW3 := hW2.done
     repeat' (first
      | exact True.intro | refine AR ?_ | refine two ?_ ?_
      | (refine imp fun hc => ?_) <;> try exact cx hc
      | refine all fun v_ => ?_)
     refine ⟨(ps1, td1, qu2), ⟨hW3, hq2, htd2⟩, by dsimp only; omega, VS.take (by exact AI) ?_⟩
     exact leD
end Go.Proofs.YtibahljljjkceaaGreatDoor
namespace Go.Sp
open Go Go.Av

noncomputable def H4 (g : Gn) (h k : Nat) : Bool := decide (ni (BZ g) k = h)
theorem Ov (g : Gn) {i : Nat} (h : i < g.spots.length) : ((ni (BZ g) i : Nat) : Int) = partOf g.nx i := by
 have h1 := Ct (nx := g.nx) i
 rw [B4 _ _ (by rw [D0]; exact h)]
 simp only [BZ, List.getElem_map, List.getElem_range]
 omega
theorem Gb (g : Gn) {i k : Nat} (hi : i < g.spots.length) (hk : k < g.spots.length) : ni (BZ g) i = ni (BZ g) k ↔ Rch g.nx i k ∧ Rch g.nx k i := by
 rw [← Ip, ← Ov g hi, ← Ov g hk]
 omega
theorem Rch.head {nx : Nat → List Nat} {i j : Nat} (h : Rch nx i j) : i = j ∨ ∃ k ∈ nx i, Rch nx k j := by
 induction h with
 | refl => exact .inl rfl
 | step _ e ih =>
   rcases ih with rfl | ⟨k, hk, h⟩
   · exact .inr ⟨_, e, .refl _⟩
   · exact .inr ⟨k, hk, .step h e⟩
section
variable {g : Gn} {h : Nat}
theorem NG (hok : g.ok) {i v : Nat} (hi : i < g.spots.length) (hih : ni (BZ g) i = h) (h1 : Rch g.nx i v) (h2 : Rch g.nx v i) : MB g.nx [i] (H4 g h) v := by
 induction h1 with
 | refl => exact .base (List.mem_singleton.2 rfl)
 | step h3 e ih =>
   have h4 := (Rch.one e).trans h2
   refine .step (ih h4) e ?_
   have hk := g.nx_lt hok _ _ e
   unfold H4
   rw [decide_eq_true_iff, ← hih, Gb g hk hi]
   exact ⟨h2, h3.step e⟩
theorem SZ.found {nx : Nat → List Nat} {n : Nat} {fr : List Nat} {ins wnt : Nat → Bool} {l : List Nat} (w : SZ nx n fr ins wnt l) {v : Nat} (hv : MB nx fr ins v) (hw : wnt v = true) : ID nx n fr ins wnt l := by
 rcases w with w | ⟨_, w⟩
 · exact w
 · rw [w v hv] at hw; cases hw
theorem RV (hh : CC g h) : MB g.nx (List.range g.init) (fun _ => true) h := by
 obtain ⟨j, hj, hr⟩ := hh
 induction hr with
 | refl => exact .base (List.mem_range.2 hj)
 | step _ e ih => exact .step ih e rfl
theorem S5 (hok : g.ok) (hf : FW g (BZ g) h) {a s : Nat} (ha : a < g.spots.length) (hah : ni (BZ g) a = h) (hs : s < g.many) : ∃ v, MB g.nx [a] (H4 g h) v ∧ (ni g.sets v).testBit s = true := by
 obtain ⟨u, hu, e, hb⟩ := hf.2.2 s hs
 obtain ⟨r1, r2⟩ := (Gb g ha hu).1 (hah.trans e.symm)
 exact ⟨u, NG hok ha hah r1 r2, hb⟩
theorem RW (hok : g.ok) (hf : FW g (BZ g) h) {a : Nat} (ha : a < g.spots.length) (hah : ni (BZ g) a = h) : ∃ k ∈ g.nx a, H4 g h k = true := by
 obtain ⟨u, hu, e, w, hw, ew⟩ := hf.2.1
 obtain ⟨r1, r2⟩ := (Gb g ha hu).1 (hah.trans e.symm)
 rcases r1.head with rfl | ⟨k, hk, r3⟩
 · exact ⟨w, hw, decide_eq_true ew⟩
 · refine ⟨k, hk, decide_eq_true ?_⟩
   rw [← e, Gb g (g.nx_lt hok _ _ hk) hu]
   exact ⟨r3, r2.trans (Rch.one hk)⟩
theorem Qq (hok : g.ok) (hh : h < g.spots.length) (hf : FW g (BZ g) h) {k : Nat} (hk : k < g.spots.length) (hkh : ni (BZ g) k = h) : MB g.nx [k] (H4 g h) h := by
 obtain ⟨r1, r2⟩ := (Gb g hk hh).1 (hkh.trans hf.1.symm)
 exact NG hok hk hkh r1 r2
end
section
variable {nx : Nat → List Nat} {ins : Nat → Bool}
theorem CF.app : ∀ {l : List Nat} {a : Nat} {t : List Nat}, CF nx ins l → l.getLast? = some a → CF nx ins (a :: t) → CF nx ins (l ++ t)
 | [], a, t, _, h, _ => by simp at h
 | [x], a, t, _, h, c => by
   simp at h; subst h; exact c
 | x :: y :: l, a, t, c, h, d => by
   rw [List.getLast?_cons_cons] at h
   exact ⟨c.1, CF.app (l := y :: l) c.2 h d⟩
theorem CF.mono {ins' : Nat → Bool} (hi : ∀ k, ins k = true → ins' k = true) : ∀ {l : List Nat}, CF nx ins l → CF nx ins' l
 | [], _ => trivial
 | [_], _ => trivial
 | _ :: _ :: _, c => ⟨⟨c.1.1, hi _ c.1.2⟩, CF.mono hi c.2⟩
theorem CF.all : ∀ {a : Nat} {t : List Nat}, CF nx ins (a :: t) → ∀ x ∈ t, ins x = true
 | _, [], _, x, hx => by cases hx
 | _, y :: t, c, x, hx => by
   rcases List.mem_cons.1 hx with rfl | hx
   · exact c.1.2
   · exact CF.all c.2 x hx
end
theorem ID.cons {nx : Nat → List Nat} {n i : Nat} {ins wnt : Nat → Bool} {l : List Nat} (w : ID nx n [i] ins wnt l) : ∃ t, l = i :: t := by
 cases l with
 | nil => exact absurd rfl w.ne
 | cons a t => exact ⟨t, by rw [List.mem_singleton.1 (w.head a rfl)]⟩
theorem ID.back {nx : Nat → List Nat} {n h : Nat} {fr : List Nat} {ins : Nat → Bool} {l : List Nat} (w : ID nx n fr ins (fun k => decide (k = h)) l) : l = l.dropLast ++ [h] := by
 have h1 := List.dropLast_concat_getLast w.ne
 have h2 := w.last _ (List.getLast?_eq_some_getLast w.ne)
 rw [of_decide_eq_true h2] at h1
 exact h1.symm
structure Iv (g : Gn) (h b : Nat) (l : List Nat) (met : Nat) : Prop where
 head : l.head? = some h
 chain : CF g.nx (H4 g h) l
 ins : ∀ a ∈ l, a < g.spots.length ∧ ni (BZ g) a = h
 bits : ∀ s, s < b → ∃ a ∈ l, (ni g.sets a).testBit s = true
 met : ∀ s, met.testBit s = true → ∃ a ∈ l, (ni g.sets a).testBit s = true
section
variable {g : Gn} {h b met : Nat} {l : List Nat}
theorem Iv.start (hh : h < g.spots.length) (hf : FW g (BZ g) h) : Iv g h 0 [h] (ni g.sets h) :=
 ⟨rfl, trivial, fun a ha => (by rw [List.mem_singleton.1 ha]; exact ⟨hh, hf.1⟩), fun s hs => absurd hs (Nat.not_lt_zero s), fun s hs => ⟨h, List.mem_singleton.2 rfl, hs⟩⟩
theorem Iv.ne (w : Iv g h b l met) : l ≠ [] := fun e => by have := w.head; rw [e] at this; cases this
theorem Iv.skip (w : Iv g h b l met) (hb : met.testBit b = true) : Iv g h (b + 1) l met :=
 ⟨w.head, w.chain, w.ins, fun s hs => by
  by_cases e : s = b
  · subst e; exact w.met _ hb
  · exact w.bits s (by omega), w.met⟩
theorem Iv.join (w : Iv g h b l met) {a : Nat} {t : List Nat} {met' : Nat} (ha : l.getLast? = some a) (v : ID g.nx g.spots.length [a] (H4 g h) (fun k => (ni g.sets k).testBit b) (a :: t)) (hm : ∀ s, met'.testBit s = true → met.testBit s = true ∨ ∃ x ∈ t, (ni g.sets x).testBit s = true) : Iv g h (b + 1) (l ++ t) met' := by
 have hal : a ∈ l := List.mem_of_getLast? ha
 refine ⟨?_, w.chain.app ha v.chain, fun x hx => ?_, fun s hs => ?_, fun s hs => ?_⟩
 · rw [List.head?_append, w.head]; rfl
 · rcases List.mem_append.1 hx with hx | hx
   · exact w.ins x hx
   · exact ⟨v.lt x (List.mem_cons_of_mem _ hx), of_decide_eq_true (v.chain.all x hx)⟩
 · by_cases e : s = b
   · subst e
     obtain ⟨z, hz⟩ : ∃ z, (a :: t).getLast? = some z := ⟨_, List.getLast?_eq_some_getLast (by simp)⟩
     have h1 := v.last z hz
     rcases List.mem_cons.1 (List.mem_of_getLast? hz) with rfl | hzt
     · exact ⟨z, List.mem_append_left _ hal, h1⟩
     · exact ⟨z, List.mem_append_right _ hzt, h1⟩
   · obtain ⟨x, hx, e⟩ := w.bits s (by omega)
     exact ⟨x, List.mem_append_left _ hx, e⟩
 · rcases hm s hs with h1 | ⟨x, hx, e⟩
   · obtain ⟨x, hx, e⟩ := w.met s h1
     exact ⟨x, List.mem_append_left _ hx, e⟩
   · exact ⟨x, List.mem_append_right _ hx, e⟩
end
structure Jr (g : Gn) (stem loop : List Nat) : Prop where
 ne : loop ≠ []
 lt : ∀ a ∈ stem ++ loop, a < g.spots.length
 chain : ∀ a, loop.head? = some a → CF g.nx (fun _ => true) (stem ++ loop ++ [a])
 first : ∀ a, (stem ++ loop).head? = some a → a < g.init
 bits : ∀ s, s < g.many → ∃ a ∈ loop, (ni g.sets a).testBit s = true
theorem Iv.fits {g : Gn} {h met : Nat} {l ws w2 : List Nat} {a k : Nat} (w : Iv g h g.many l met) (ha : l.getLast? = some a) (hk : k ∈ g.nx a) (hki : H4 g h k = true)
 (s : ID g.nx g.spots.length (List.range g.init) (fun _ => true) (fun k => decide (k = h)) ws) (v : ID g.nx g.spots.length [k] (H4 g h) (fun k => decide (k = h)) w2) : Jr g ws.dropLast (l ++ w2.dropLast) := by
 obtain ⟨t, e2⟩ := v.cons
 have hb2 := v.back
 have hb1 := s.back
 have c1 : CF g.nx (H4 g h) (l ++ w2) := w.chain.app ha (by rw [e2]; exact ⟨⟨hk, hki⟩, e2 ▸ v.chain⟩)
 have c2 : CF g.nx (fun _ => true) (l ++ w2) := c1.mono fun _ _ => rfl
 have hh := w.head
 have hd : (l ++ w2.dropLast).head? = some h := by rw [List.head?_append, hh]; rfl
 obtain ⟨l', rfl⟩ : ∃ l', l = h :: l' := by
  cases l with
  | nil => cases hh
  | cons x l' => cases hh; exact ⟨l', rfl⟩
 refine ⟨fun e => (by rw [e] at hd; cases hd), fun x hx => ?_, fun x hx => ?_, fun x hx => ?_, fun b hb => ?_⟩
 · rcases List.mem_append.1 hx with hx | hx
   · exact s.lt x (List.dropLast_subset _ hx)
   · rcases List.mem_append.1 hx with hx | hx
     · exact (w.ins x hx).1
     · exact v.lt x (List.dropLast_subset _ hx)
 · rw [hd] at hx
   cases hx
   have c3 : CF g.nx (fun _ => true) (ws ++ (l' ++ w2)) := by
    refine s.chain.app (a := h) (by rw [hb1, List.getLast?_append]; rfl) ?_
    exact c2
   rw [hb1, hb2] at c3
   simpa using c3
 · have : ws.head? = some x := by
    rw [hb1]
    rw [List.head?_append] at hx ⊢
    cases hw : ws.dropLast.head? with
    | none => rw [hw] at hx; rw [hd] at hx; exact hx
    | some y => rw [hw] at hx; exact hx
   exact List.mem_range.1 (s.head x this)
 · obtain ⟨x, hx, e⟩ := w.bits b hb
   exact ⟨x, List.mem_append_left _ hx, e⟩
end Go.Sp
namespace Go.Proofs.YtibahljljjkceaaGreatDoor
open Go Go.Av Go.Sp
theorem Q0 : Cal Tryz.prog 64 := Cal.of Tryz.func64 (by kernel_rfl) (by kernel_rfl)
theorem Qo : Cal Tryz.prog 65 := Cal.of Tryz.func65 (by kernel_rfl) (by kernel_rfl)
theorem Gl : Cal Tryz.prog 66 := Cal.of Tryz.func66 (by kernel_rfl) (by kernel_rfl)
theorem Qf : Cal Tryz.prog 67 := Cal.of Tryz.func67 (by kernel_rfl) (by kernel_rfl)
theorem Qn : Cal Tryz.prog 68 := Cal.of Tryz.func68 (by kernel_rfl) (by kernel_rfl)
theorem las1 (k : Nat) (ea eb ec ed : Ent) : AC Tryz.prog GP 64 [.int k] [ea, eb, ec, ed] fun r h => ∃ _ : Unit, r = .ret (.bool true) ∧ h = [ea, eb, ec, ed] := by
 refine AN (ts := [2]) Tryz.f64.ntmps Tryz.func64 rfl rfl rfl (by simp [Tryz.ntmps64]) fun W I => ?_
 repeat' (first
  | exact True.intro | refine AD ?_ | refine two ?_ ?_ | refine AB fun c_ => ?_
  | (refine imp fun hc => ?_) <;> try exact cx1 hc
  | refine all fun v_ => ?_)
 all_goals
  refine Bi ?_
  ((with_reducible apply rq1); rfl; rfl)
  exact ⟨(), rfl, rfl⟩
theorem las2 (home k : Nat) (bh : Nat) (eb ec ed : Ent) : AC Tryz.prog GP 65 [.int k, .val (.pointer (some ⟨bh, 0, none⟩))] [.cells bh 3 [.int home], eb, ec, ed] fun r h => ∃ _ : Unit, r = .ret (.bool (decide (k = home))) ∧ h = [.cells bh 3 [.int home], eb, ec, ed] := by
 refine AN (ts := [3]) Tryz.f65.ntmps Tryz.func65 rfl rfl rfl (by simp [Tryz.ntmps65]) fun W I => ?_
 repeat' (first
  | exact True.intro | refine AD ?_ | refine two ?_ ?_ | refine AB fun c_ => ?_
  | (refine imp fun hc => ?_) <;> try exact cx1 hc
  | refine all fun v_ => ?_)
 all_goals
  refine Bi ?_
  ((with_reducible apply rq1); rfl; rfl)
  exact ⟨(), by simp; omega, rfl⟩
theorem las5 (home k : Nat) (bh : Nat) (eb ec ed : Ent) : AC Tryz.prog GP 68 [.int k, .val (.pointer (some ⟨bh, 0, none⟩))] [.cells bh 3 [.int home], eb, ec, ed] fun r h => ∃ _ : Unit, r = .ret (.bool (decide (k = home))) ∧ h = [.cells bh 3 [.int home], eb, ec, ed] := by
 refine AN (ts := [3]) Tryz.f68.ntmps Tryz.func68 rfl rfl rfl (by simp [Tryz.ntmps68]) fun W I => ?_
 repeat' (first
  | exact True.intro | refine AD ?_ | refine two ?_ ?_ | refine AB fun c_ => ?_
  | (refine imp fun hc => ?_) <;> try exact cx1 hc
  | refine all fun v_ => ?_)
 all_goals
  refine Bi ?_
  ((with_reducible apply rq1); rfl; rfl)
  exact ⟨(), by simp; omega, rfl⟩
theorem ZM (g : Gn) (home k : Nat) (hk : k < g.spots.length) (bh bp : Nat) (ec ed : Ent) : AC Tryz.prog GP 66 [.int k, .val (.pointer (some ⟨bp, 0, none⟩)), .val (.pointer (some ⟨bh, 0, none⟩))] [.cells bh 3 [.int home], .cells bp 31 [.d (AT (BZ g))], ec, ed] fun r h => ∃ _ : Unit, r = .ret (.bool (H4 g home k)) ∧ h = [.cells bh 3 [.int home], .cells bp 31 [.d (AT (BZ g))], ec, ed] := by
 have hl := D0 g
 have hn := B4 (BZ g) k (by omega)
 refine AN (ts := [4]) Tryz.f66.ntmps Tryz.func66 rfl rfl rfl (by simp [Tryz.ntmps66]) fun W I => ?_
 repeat' (first
  | exact True.intro | refine AD ?_ | refine two ?_ ?_ | refine AB fun c_ => ?_
  | (refine imp fun hc => ?_) <;> try exact cx1 hc
  | refine all fun v_ => ?_)
 all_goals
  refine Bi ?_
  ((with_reducible apply rq1); rfl; rfl)
  exact ⟨(), by unfold H4; rw [hn]; simp; omega, rfl⟩
theorem las4 (g : Gn) (hok : g.ok) (bit k : Nat) (hk : k < g.spots.length) (hb : bit < 6) (bg bb : Nat) (ea eb : Ent) : AC Tryz.prog GP 67 [.int k, .val (.pointer (some ⟨bg, 0, none⟩)), .val (.pointer (some ⟨bb, 0, none⟩))] [ea, eb, .cells bg 62 [.d (AO g.spots), .int g.init, .d (As g.next), .d (AT g.sets), .int g.many], .cells bb 3 [.int bit]] fun r h => ∃ _ : Unit, r = .ret (.bool ((ni g.sets k).testBit bit)) ∧ h = [ea, eb, .cells bg 62 [.d (AO g.spots), .int g.init, .d (As g.next), .d (AT g.sets), .int g.many], .cells bb 3 [.int bit]] := by
 have hl := hok.sets
 have hn := B4 g.sets k (by omega)
 have hs := hok.bits k (by omega)
 have hm := hok.many
 have hs' : g.sets[k] < 64 := Nat.lt_of_lt_of_le hs (by have := Nat.pow_le_pow_right (n := 2) (by decide) hm; exact this)
 have hbd := Ki g.sets[k] bit
 refine AN (ts := [4]) Tryz.f67.ntmps Tryz.func67 rfl rfl rfl (by simp [Tryz.ntmps67]) fun W I => ?_
 repeat' (first
  | exact True.intro | refine AD ?_ | refine two ?_ ?_ | refine AB fun c_ => ?_
  | (refine imp fun hc => ?_) <;> try exact cx1 hc
  | refine all fun v_ => ?_)
 all_goals
  refine Bi ?_
  ((with_reducible apply rq1); rfl; rfl)
  refine ⟨(), ?_, rfl⟩
  have e1 : (bit : Int).toNat = bit := Int.toNat_natCast bit
  have e2 : (g.sets[k] : Int) / 2 ^ bit = ((g.sets[k] / 2 ^ bit : Nat) : Int) := by simp
  have e3 : g.sets[k] / 2 ^ bit ≤ g.sets[k] := Nat.div_le_self _ _
  have e4 : (ni g.sets k).testBit bit = decide ((g.sets[k] : Int) / 2 ^ bit % 2 = 1) := by
   rw [hn]
   by_cases h : g.sets[k].testBit bit = true
   · rw [h]; exact (decide_eq_true (hbd.2 h)).symm
   · rw [Bool.not_eq_true] at h
     rw [h]; exact (decide_eq_false (fun h' => by rw [hbd.1 h'] at h; cases h)).symm
  generalize g.sets[k] / 2 ^ bit = z at e2 e3
  rw [e4, e1, Zo (by rw [e2]; omega) (by rw [e2]; omega)]
end Go.Proofs.YtibahljljjkceaaGreatDoor
