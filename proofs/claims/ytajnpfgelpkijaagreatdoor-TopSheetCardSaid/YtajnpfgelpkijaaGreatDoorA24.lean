/- A bundle of this claim's own texts: V10. -/
import Derived.Test.YtajnpfgelpkijaaGreatDoorA5
import Derived.Test.YtajnpfgelpkijaaGreatDoorA9
import Derived.Test.YtajnpfgelpkijaaGreatDoorA19
set_option linter.unusedVariables false
set_option linter.unusedSimpArgs false
set_option maxRecDepth 100000
set_option maxHeartbeats 4000000
namespace Go.Proofs.YtajnpfgelpkijaaGreatDoor
open Go Go.Av Go.Sp
theorem Og : Cal Tryz.prog 64 := Cal.of Tryz.func64 (by kernel_rfl) (by kernel_rfl)
abbrev Aq (l : List Nat) : List Int := l.map fun k : Nat => (k : Int)
theorem way (g : Gn) (hok : g.ok) (fr : List Nat) (ins wnt : Nat → Bool) (fi fw : FuncId) (ci cw : Array Value) (ea eb ec ed : Ent) (hci : Cal Tryz.prog fi) (hcw : Cal Tryz.prog fw)
 (hai : ∀ k : Nat, k < g.spots.length → AC Tryz.prog GP fi ([.int k] ++ ci.toList.map AV.val) [ea, eb, ec, ed] fun r h => ∃ _ : Unit, r = .ret (.bool (ins k)) ∧ h = [ea, eb, ec, ed])
 (haw : ∀ k : Nat, k < g.spots.length → AC Tryz.prog GP fw ([.int k] ++ cw.toList.map AV.val) [ea, eb, ec, ed] fun r h => ∃ _ : Unit, r = .ret (.bool (wnt k)) ∧ h = [ea, eb, ec, ed])
 (hne : fr ≠ []) (hnd : fr.Nodup) (hfr : ∀ k ∈ fr, k < g.spots.length) :
 AC Tryz.prog GP 64 [gnA g, .d (AP (Aq fr)), .val (.func (.func fi) #[] ci), .val (.func (.func fw) #[] cw)] [ea, eb, ec, ed] fun r h => ∃ v : {l : List Nat // V0 g.nx g.spots.length fr ins wnt l ∧ l.length ≤ g.spots.length}, r = .ret (.d (AP (Aq v.1))) ∧ h = [ea, eb, ec, ed] := by
 have hsz := hok.size
 have hnl := hok.next
 have hto := fun i => g.nx_lt hok i
 refine AK (ts := [8]) Tryz.f64.ntmps Tryz.func64 rfl rfl rfl (by simp [Tryz.ntmps64]) fun W I => ?_
 have hfl : fr.length ≤ g.spots.length := by
  have h1 := (WI.nil g.nx g.spots.length fr ins)
  have key : ∀ (m : Nat) (xs : List Nat), xs.Nodup → (∀ x ∈ xs, x < m) → xs.length ≤ m := by
   intro m
   induction m with
   | zero =>
     intro xs _ h
     cases xs with
     | nil => exact Nat.le_refl _
     | cons x _ => have := h x List.mem_cons_self; omega
   | succ m ih =>
     intro xs hn h
     have i1 := ih (xs.erase m) (hn.erase _) fun x hx => by
      have h1 := h x (List.mem_of_mem_erase hx)
      have h2 : x ≠ m := fun e => by subst e; exact (List.Nodup.not_mem_erase hn) hx
      omega
     have := List.length_erase (a := m) (l := xs)
     split at this <;> omega
  exact key _ fr hnd hfr
 have hcl : (Aq fr).length = fr.length := by simp
 refine FQ (E := 3) (sz := 1) Ag ?_
 repeat' (first
  | ((with_reducible apply (Cz (Value.int .i64) (Value.int .i64))); (focus rfl))
  | ((with_reducible apply jp); (focus ((with_reducible apply (Fh (vv := Value.int .i64) (AQ .i64))); (focus rfl); (focus rfl); (focus rfl); (focus rfl); (focus (with_reducible exact ElC.h)); (focus exact Ai); (focus assumption))); (focus rfl))
  | ((with_reducible apply jp); (focus ((with_reducible apply (Fv (vv := Value.int .i64) (AQ .i64))); (focus rfl); (focus rfl); (focus rfl); (focus rfl); (focus (with_reducible exact ElC.h)); (focus exact Ai); (focus assumption))); (focus rfl))
  | exact True.intro | refine AM ?_ | refine two ?_ ?_
  | (refine imp fun hc => ?_) <;> try exact cx hc
  | refine all fun v_ => ?_)
 obtain ⟨q, rfl⟩ : ∃ x, x = v_ := ⟨v_, rfl⟩
 obtain ⟨bm, rfl⟩ : ∃ x, x = v_ := ⟨v_, rfl⟩
 obtain ⟨bx, rfl⟩ : ∃ x, x = v_ := ⟨v_, rfl⟩
 refine AL (X := Nat) (fun i => [(2, .val (.func (.func fi) #[] ci)), (3, .val (.func (.func fw) #[] cw)), (4, .val (.pointer (some ⟨bx, 0, none⟩))), (9, .val (.map (some bm))), (10, .val q.v), (22, .d (AP (Aq fr))), (23, .int fr.length), (24, .int i)]) (fun i => [.raw bm (Ay (Ab (Value.int .i64) (Value.int .i64) ((fr.take i).map fun k : Nat => ((k : Int), (-1 : Int))))), AF q.v 3 1 Ag (Aq fr), .cells bx 145 [.d (AN g.spots), .int g.init, .d (BJ g.next), .d (Af g.sets), .int g.many], ea, eb, ec, ed]) (fun i => i ≤ fr.length ∧ ∀ k ∈ fr.take i, wnt k = false) (fun i => fr.length - i) 0 ⟨Nat.zero_le _, fun k hk => (by cases hk)⟩ (VS.take (by exact AB) ?_) ?_
 · exact leD
 rintro i ⟨hi, hun⟩
 by_cases hil : i < fr.length
 · have hlt := hfr _ (List.getElem_mem hil)
   have hci' : (Aq fr)[i]'(by omega) = (fr[i] : Int) := by simp
   have hw := haw fr[i] hlt
   rw [← hci'] at hw
   have hno : getM ((fr.take i).map fun k : Nat => ((k : Int), (-1 : Int))) ((Aq fr)[i]'(by omega)) = none := by
    rw [hci', getM_none]
    intro p hp e
    obtain ⟨k, hk, rfl⟩ := List.mem_map.1 hp
    obtain ⟨j, hj, rfl⟩ := List.getElem_of_mem hk
    rw [List.getElem_take] at e
    rw [List.length_take] at hj
    have := List.pairwise_iff_getElem.1 hnd j i (by omega) hil (by omega)
    exact this (by dsimp only at e; omega)
   have hps : (fr.take (i + 1)).map (fun k : Nat => ((k : Int), (-1 : Int))) = ((fr.take i).map fun k : Nat => ((k : Int), (-1 : Int))) ++ [((Aq fr)[i]'(by omega), (-1 : Int))] := by
    rw [List.take_succ_eq_append_getElem hil, List.map_append, hci']; rfl
   cases hwk : wnt fr[i] with
   | true =>
     rw [hwk] at hw
     repeat' (first
      | ((with_reducible apply (Gk (AQ .i64) (vv := Value.int .i64) (c := -1))); (focus rfl); (focus rfl); (focus rfl); (focus exact fun _ _ _ h => h); (focus rfl); (focus rfl); (focus exact B6); (focus assumption))
      | ((with_reducible apply Cq); (focus rfl); (focus rfl); (focus exact hcw); (focus exact hw); (focus exact AS); (focus rfl); (focus exact A8))
      | exact True.intro | refine AM ?_ | refine two ?_ ?_
      | (refine imp fun hc => ?_) <;> try exact cx hc
      | refine all fun v_ => ?_)
     refine AO (VS.drop (h' := [ea, eb, ec, ed]) (by exact H6)) ?_
     ((with_reducible apply rq1); rfl; rfl)
     refine ⟨⟨[fr[i]], V0.one (List.getElem_mem hil) hlt hwk, by rw [List.length_singleton]; omega⟩, ?_, rfl⟩
     rw [hci']; rfl
   | false =>
     rw [hwk] at hw
     repeat' (first
      | ((with_reducible apply (Gk (AQ .i64) (vv := Value.int .i64) (c := -1))); (focus rfl); (focus rfl); (focus rfl); (focus exact fun _ _ _ h => h); (focus rfl); (focus rfl); (focus exact B6); (focus assumption))
      | ((with_reducible apply Cq); (focus rfl); (focus rfl); (focus exact hcw); (focus exact hw); (focus exact AS); (focus rfl); (focus exact A8))
      | exact True.intro | refine AM ?_ | refine two ?_ ?_
      | (refine imp fun hc => ?_) <;> try exact cx hc
      | refine all fun v_ => ?_)
     refine ⟨i + 1, ⟨by omega, fun k hk => ?_⟩, by omega, VS.take (by rw [hps]; exact AB) ?_⟩
     · rw [List.take_succ_eq_append_getElem hil] at hk
       rcases List.mem_append.1 hk with h | h
       · exact hun k h
       · rw [List.mem_singleton.1 h]; exact hwk
     · exact leD
 obtain rfl : i = fr.length := by omega
 rw [List.take_length] at hun ⊢
 have hW0 : WS g.nx g.spots.length fr ins wnt (fr.map fun k : Nat => ((k : Int), (-1 : Int))) (Aq fr) none := WS.start hnd hfr hun
 have hfl0 : 0 < (Aq fr).length := by rw [hcl]; exact List.length_pos_iff.2 hne
 refine cc (h1 := [_]) hfl0 fun qu hqo hqv => ?_
 rw [hqv]
 rw [hcl] at hqo ⊢
 repeat' (first
  | exact True.intro | refine AM ?_ | refine two ?_ ?_
  | (refine imp fun hc => ?_) <;> try exact cx hc
  | refine all fun v_ => ?_)
 refine AL (X := List (Int × Int) × List Int × Qu) (fun y => [(2, .val (.func (.func fi) #[] ci)), (3, .val (.func (.func fw) #[] cw)), (4, .val (.pointer (some ⟨bx, 0, none⟩))), (9, .val (.map (some bm))), (10, .val (y.2.2.v y.2.1.length))]) (fun y => [.raw bm (Ay (Ab (Value.int .i64) (Value.int .i64) (y.1))), quE 3 y.2.2 y.2.1, .cells bx 145 [.d (AN g.spots), .int g.init, .d (BJ g.next), .d (Af g.sets), .int g.many], ea, eb, ec, ed]) (fun y => WS g.nx g.spots.length fr ins wnt y.1 y.2.1 none ∧ y.2.2.Ok y.2.1.length ∧ y.2.1.length ≤ y.1.length) (fun y => 2 * (g.spots.length - y.1.length) + y.2.1.length) (_, Aq fr, qu) ⟨hW0, by rw [hcl]; exact hqo, by rw [hcl, List.length_map]; exact Nat.le_refl _⟩ (VS.take (by exact AB) ?_) ?_
 · rw [hcl]; exact leD
 rintro ⟨ps, td, qu⟩ ⟨hW, hqo, htd⟩
 dsimp only at hW hqo htd ⊢
 have hpl := hW.wi.len
 cases td with
 | nil =>
   dsimp only [List.length_nil] at hqo htd ⊢
   repeat' (first
    | exact True.intro | refine AM ?_ | refine two ?_ ?_
    | (refine imp fun hc => ?_) <;> try exact cx hc
    | refine all fun v_ => ?_)
   refine AO (VS.trans (VS.drop (h' := [ea, eb, ec, ed]) (by exact H6)) (Ft (t := 8) 1 8 rfl)) ?_
   ((with_reducible apply rq1); rfl; rfl)
   exact ⟨⟨[], .inr ⟨rfl, hW.noway⟩, Nat.zero_le _⟩, rfl, rfl⟩
 | cons y td =>
   obtain ⟨i, rfl, hik⟩ := hW.todo y List.mem_cons_self
   obtain ⟨i0, hi0, ei⟩ := Fc.1 hik
   obtain ⟨i', ei', hin, _⟩ := hW.wi.key i0 hi0
   obtain rfl : i = i' := by omega
   have hnx := g.nx_get i (by omega)
   dsimp only [List.length_cons] at hqo htd ⊢
   have hh := bN qu (i : Int) td hqo
   have hq1 : (qu.tl (i : Int)).Ok td.length := hqo.tl
   obtain ⟨M, hM⟩ : ∃ M, M = 2 * (g.spots.length - ps.length) + td.length := ⟨_, rfl⟩
   have hW1 := hW.pop
   repeat' (first
    | ((with_reducible apply jp); (focus ((with_reducible apply VX); (focus rfl); (focus rfl); (focus rfl); (focus (with_reducible exact ElC.h)); (focus omega))); (focus rfl))
    | ((with_reducible apply jp); (focus ((with_reducible apply (ZG (i : Int))); (focus rfl); (focus rfl); (focus rfl); (focus (with_reducible exact ElC.h)); (focus assumption))); (focus rfl))
    | exact True.intro | refine AM ?_ | refine two ?_ ?_
    | (refine imp fun hc => ?_) <;> try exact cx hc
    | refine all fun v_ => ?_)
   rw [← dY 3 qu (i : Int) td hqo]
   generalize qu.tl (i : Int) = qu1 at hq1 ⊢
   refine AL (X := List (Int × Int) × List Int × Qu × Nat) (fun y => [(2, .val (.func (.func fi) #[] ci)), (3, .val (.func (.func fw) #[] cw)), (4, .val (.pointer (some ⟨bx, 0, none⟩))), (9, .val (.map (some bm))), (10, .val (y.2.2.1.v y.2.1.length)), (13, .int i), (49, .d (Af g.next[i])), (50, .int g.next[i].length), (51, .int y.2.2.2)]) (fun y => [.raw bm (Ay (Ab (Value.int .i64) (Value.int .i64) (y.1))), quE 3 y.2.2.1 y.2.1, .cells bx 145 [.d (AN g.spots), .int g.init, .d (BJ g.next), .d (Af g.sets), .int g.many], ea, eb, ec, ed]) (fun y => WS g.nx g.spots.length fr ins wnt y.1 y.2.1 (some (i, y.2.2.2)) ∧ y.2.2.1.Ok y.2.1.length ∧ y.2.1.length ≤ y.1.length ∧ y.2.2.2 ≤ g.next[i].length ∧ 2 * (g.spots.length - y.1.length) + y.2.1.length ≤ M) (fun y => g.next[i].length - y.2.2.2) (ps, td, qu1, 0) ⟨hW1, hq1, by dsimp only; omega, Nat.zero_le _, by dsimp only; omega⟩ (VS.take (by exact AB) ?_) ?_
   · exact leD
   rintro ⟨ps1, td1, qu2, m⟩ ⟨hW2, hq2, htd2, hm, hM2⟩
   dsimp only at hW2 hq2 htd2 hm hM2 ⊢
   have hpl2 := hW2.wi.len
   refine EC (t := 49) rfl fun hlj => ?_
   by_cases hml : m < g.next[i].length
   · have hm' : m < (g.nx i).length := by rw [hnx]; exact hml
     have hke : (g.nx i)[m] = g.next[i][m] := by simp only [hnx]
     have hkn := g.nx_lt hok i _ (List.getElem_mem hm')
     have hadd := fun hno hi hw => hW2.meet (fun i => g.nx_lt hok i) hm' hno hi hw
     have hskip := fun ho => hW2.skip hm' ho
     rw [hke] at hkn hadd hskip
     have hi1 := hai _ hkn
     have hw1 := haw _ hkn
     cases hg : getM ps1 (g.next[i][m] : Int) with
     | some c =>
       repeat' (first
        | ((with_reducible apply (Cz (Value.int .i64) (Value.int .i64))); (focus rfl))
        | ((with_reducible apply jp); (focus ((with_reducible apply (Fh (vv := Value.int .i64) (AQ .i64))); (focus rfl); (focus rfl); (focus rfl); (focus rfl); (focus (with_reducible exact ElC.h)); (focus exact Ai); (focus assumption))); (focus rfl))
        | ((with_reducible apply jp); (focus ((with_reducible apply (Fv (vv := Value.int .i64) (AQ .i64))); (focus rfl); (focus rfl); (focus rfl); (focus rfl); (focus (with_reducible exact ElC.h)); (focus exact Ai); (focus assumption))); (focus rfl))
        | exact True.intro | refine AM ?_ | refine two ?_ ?_
        | (refine imp fun hc => ?_) <;> try exact cx hc
        | refine all fun v_ => ?_)
       refine ⟨(ps1, td1, qu2, m + 1), ⟨hskip (.inl (by unfold isKey; rw [hg]; exact fun h => nomatch h)), hq2, htd2, hml, hM2⟩, by dsimp only; omega, VS.take (by exact AB) ?_⟩
       exact leD
     | none =>
       cases hin2 : ins g.next[i][m] with
       | false =>
         rw [hin2] at hi1
         repeat' (first
          | ((with_reducible apply (Cz (Value.int .i64) (Value.int .i64))); (focus rfl))
          | ((with_reducible apply jp); (focus ((with_reducible apply (Fh (vv := Value.int .i64) (AQ .i64))); (focus rfl); (focus rfl); (focus rfl); (focus rfl); (focus (with_reducible exact ElC.h)); (focus exact Ai); (focus assumption))); (focus rfl))
          | ((with_reducible apply jp); (focus ((with_reducible apply (Fv (vv := Value.int .i64) (AQ .i64))); (focus rfl); (focus rfl); (focus rfl); (focus rfl); (focus (with_reducible exact ElC.h)); (focus exact Ai); (focus assumption))); (focus rfl))
          | ((with_reducible apply Cq); (focus rfl); (focus rfl); (focus exact hci); (focus exact hi1); (focus exact AS); (focus rfl); (focus exact A8))
          | exact True.intro | refine AM ?_ | refine two ?_ ?_
          | (refine imp fun hc => ?_) <;> try exact cx hc
          | refine all fun v_ => ?_)
         refine ⟨(ps1, td1, qu2, m + 1), ⟨hskip (.inr hin2), hq2, htd2, hml, hM2⟩, by dsimp only; omega, VS.take (by exact AB) ?_⟩
         exact leD
       | true =>
         rw [hin2] at hi1
         cases hwn : wnt g.next[i][m] with
         | false =>
           rw [hwn] at hw1
           repeat' (first
            | ((with_reducible apply (Cz (Value.int .i64) (Value.int .i64))); (focus rfl))
            | ((with_reducible apply jp); (focus ((with_reducible apply (Fh (vv := Value.int .i64) (AQ .i64))); (focus rfl); (focus rfl); (focus rfl); (focus rfl); (focus (with_reducible exact ElC.h)); (focus exact Ai); (focus assumption))); (focus rfl))
            | ((with_reducible apply jp); (focus ((with_reducible apply (Fv (vv := Value.int .i64) (AQ .i64))); (focus rfl); (focus rfl); (focus rfl); (focus rfl); (focus (with_reducible exact ElC.h)); (focus exact Ai); (focus assumption))); (focus rfl))
            | ((with_reducible apply Cq); (focus rfl); (focus rfl); (focus exact hci); (focus exact hi1); (focus exact AS); (focus rfl); (focus exact A8))
            | ((with_reducible apply Cq); (focus rfl); (focus rfl); (focus exact hcw); (focus exact hw1); (focus exact AS); (focus rfl); (focus exact A8))
            | ((with_reducible apply (Gk (AQ .i64) (vv := Value.int .i64) (c := (i : Int)))); (focus rfl); (focus rfl); (focus rfl); (focus exact fun _ _ _ h => h); (focus rfl); (focus rfl); (focus exact B6); (focus assumption))
            | ((with_reducible apply Ur); (focus rfl); (focus rfl); (focus rfl); (focus (with_reducible exact ElC.h)); (focus rfl); (focus rfl); (focus assumption); (focus rfl); (focus exact Ad); (focus exact Ad); (focus exact BT); (refine all fun qk => ?_); (refine imp fun hk => ?_))
            | exact True.intro | refine AM ?_ | refine two ?_ ?_
            | (refine imp fun hc => ?_) <;> try exact cx hc
            | refine all fun v_ => ?_)
           refine ⟨(ps1 ++ [((g.next[i][m] : Int), (i : Int))], td1 ++ [(g.next[i][m] : Int)], qk, m + 1), ⟨hadd hg hin2 hwn, by dsimp only; rw [List.length_append, List.length_singleton]; exact hk, by dsimp only; rw [List.length_append, List.length_append, List.length_singleton, List.length_singleton]; omega, hml, by have := (hadd hg hin2 hwn).wi.len; dsimp only; rw [List.length_append, List.length_singleton] at this; rw [List.length_append, List.length_append, List.length_singleton, List.length_singleton]; omega⟩, by dsimp only; omega, VS.take (by dsimp only; exact AB) ?_⟩
           simp only [List.length_append, List.length_singleton]
           exact leD
         | true =>
           rw [hwn] at hw1
           repeat' (first
            | ((with_reducible apply (Cz (Value.int .i64) (Value.int .i64))); (focus rfl))
            | ((with_reducible apply jp); (focus ((with_reducible apply (Fh (vv := Value.int .i64) (AQ .i64))); (focus rfl); (focus rfl); (focus rfl); (focus rfl); (focus (with_reducible exact ElC.h)); (focus exact Ai); (focus assumption))); (focus rfl))
            | ((with_reducible apply jp); (focus ((with_reducible apply (Fv (vv := Value.int .i64) (AQ .i64))); (focus rfl); (focus rfl); (focus rfl); (focus rfl); (focus (with_reducible exact ElC.h)); (focus exact Ai); (focus assumption))); (focus rfl))
            | ((with_reducible apply Cq); (focus rfl); (focus rfl); (focus exact hci); (focus exact hi1); (focus exact AS); (focus rfl); (focus exact A8))
            | ((with_reducible apply Cq); (focus rfl); (focus rfl); (focus exact hcw); (focus exact hw1); (focus exact AS); (focus rfl); (focus exact A8))
            | ((with_reducible apply (Gk (AQ .i64) (vv := Value.int .i64) (c := (i : Int)))); (focus rfl); (focus rfl); (focus rfl); (focus exact fun _ _ _ h => h); (focus rfl); (focus rfl); (focus exact B6); (focus assumption))
            | ((with_reducible apply Ur); (focus rfl); (focus rfl); (focus rfl); (focus (with_reducible exact ElC.h)); (focus rfl); (focus rfl); (focus assumption); (focus rfl); (focus exact Ad); (focus exact Ad); (focus exact BT); (refine all fun qk => ?_); (refine imp fun hk => ?_))
            | exact True.intro | refine AM ?_ | refine two ?_ ?_
            | (refine imp fun hc => ?_) <;> try exact cx hc
            | refine all fun v_ => ?_)
           have hw2 : WI g.nx g.spots.length fr ins (ps1 ++ [((g.next[i][m] : Int), (i : Int))]) := by
            obtain ⟨j, hj, e1⟩ := Fc.1 (hW2.part i m rfl).1
            exact hW2.wi.add hg hkn (.inr ⟨j, hj, i, e1, rfl, by rw [← hke]; exact List.getElem_mem hm', hin2⟩)
           have hb0 : Bk g.nx g.spots.length fr ins wnt (ps1 ++ [((g.next[i][m] : Int), (i : Int))]) (ps1.length + 1) [] := Bk.start hw2 (by simp) (k := g.next[i][m]) (by simp) hwn
           have hk0 : kAt (ps1 ++ [((g.next[i][m] : Int), (i : Int))]) (ps1.length + 1) = g.next[i][m] := by rw [Jd _ _ (by simp)]; simp
           have hl0 : (ps1 ++ [((g.next[i][m] : Int), (i : Int))]).length = ps1.length + 1 := by simp
           have hl2 := hw2.len
           generalize ps1 ++ [((g.next[i][m] : Int), (i : Int))] = ps2 at hw2 hb0 hl0 hl2 hk0 ⊢
           refine AL (X := Nat × List Nat) (fun y => [(9, .val (.map (some bm))), (15, .int (kAt ps2 y.1)), (18, .d (AP (Aq y.2)))]) (fun y => [.raw bm (Ay (Ab (Value.int .i64) (Value.int .i64) (ps2))), ea, eb, ec, ed]) (fun y => Bk g.nx g.spots.length fr ins wnt ps2 y.1 y.2 ∧ y.2.length + y.1 ≤ ps2.length) (fun y => y.1) (ps1.length + 1, []) ⟨hb0, by dsimp only [List.length_nil]; omega⟩ (VS.trans (Ft (t := 18) 1 8 rfl) (VS.take (by exact AB) ?_)) ?_
           · rw [hk0]; exact leD
           rintro ⟨p, l⟩ ⟨hb, hpl4⟩
           dsimp only at hb hpl4 ⊢
           cases p with
           | zero =>
             rw [YK]
             repeat' (first
              | exact True.intro | refine AM ?_ | refine two ?_ ?_
              | (refine imp fun hc => ?_) <;> try exact cx hc
              | refine all fun v_ => ?_)
             refine AO (VS.drop (h' := [ea, eb, ec, ed]) (by exact H6)) ?_
             ((with_reducible apply rq1); rfl; rfl)
             exact ⟨⟨l, .inl (hb.fin rfl), by omega⟩, rfl, rfl⟩
           | succ j =>
             obtain ⟨k, p', hk, hgm, hp', hb'⟩ := hb.step hw2
             rw [hk]
             have hcll : (Aq l).length = l.length := by simp
             refine FF (IN (X := Unit) (fun _ => [(9, .val (.map (some bm))), (15, .int (k : Int)), (18, .d (AP (Aq l)))]) (fun _ => [.raw bm (Ay (Ab (Value.int .i64) (Value.int .i64) (ps2))), ea, eb, ec, ed]) ?_ fun _ => ?_)
             · repeat' (first
                | exact True.intro | refine AM ?_ | refine two ?_ ?_
                | (refine imp fun hc => ?_) <;> try exact cx hc
                | refine all fun v_ => ?_)
               exact ⟨(), VS.take (by exact AB) (by exact leD)⟩
             refine FF (I6 (I5 ?_))
             refine jp (r := .int (k : Int)) (U0 rfl) rfl ?_
             refine Us rfl rfl (by (with_reducible exact ElC.h)) rfl ?_
             repeat' (first
              | ((with_reducible apply jp); (focus ((with_reducible apply (DM (vv := Value.int .i64) (AQ .i64))); (focus rfl); (focus rfl); (focus rfl); (focus rfl); (focus exact Ai); (focus assumption))); (focus rfl))
              | exact True.intro | refine AM ?_ | refine two ?_ ?_
              | (refine imp fun hc => ?_) <;> try exact cx hc
              | refine all fun v_ => ?_)
             refine ⟨(p', k :: l), ⟨hb', by dsimp only [List.length_cons]; omega⟩, by dsimp only; omega, VS.trans (Ci (t := 18) (eb := 8) rfl rfl (fun x => rfl) (by rw [List.length_append, hcll, List.length_singleton]; omega)) (VS.take (by exact AB) ?_)⟩
             exact leD
   · have hmm : m = (g.nx i).length := by rw [hnx]; omega
     rw [hmm] at hW2
     have hW3 := hW2.done
     repeat' (first
      | exact True.intro | refine AM ?_ | refine two ?_ ?_
      | (refine imp fun hc => ?_) <;> try exact cx hc
      | refine all fun v_ => ?_)
     refine ⟨(ps1, td1, qu2), ⟨hW3, hq2, htd2⟩, by dsimp only; omega, VS.take (by exact AB) ?_⟩
     exact leD
end Go.Proofs.YtajnpfgelpkijaaGreatDoor
