/- Own texts. -/
import Derived.Test.YtnlfhnbcdfdhgaaGreatDoorA35
set_option linter.unusedVariables false
set_option linter.unusedSimpArgs false
set_option maxRecDepth 100000
set_option maxHeartbeats 4000000
namespace Go.Proofs.YtnlfhnbcdfdhgaaGreatDoor
open Go Go.Av Go.Sp
theorem Ds : Cal Tryz.prog 121 := Cal.of Tryz.func121 (by kernel_rfl) (by kernel_rfl)
theorem Oo : Cal Tryz.prog 70 := Cal.of Tryz.func70 (by kernel_rfl) (by kernel_rfl)
theorem Py : Cal Tryz.prog 59 := Cal.of Tryz.func59 (by kernel_rfl) (by kernel_rfl)
theorem PV : Cal Tryz.prog 105 := Cal.of Tryz.func105 (by kernel_rfl) (by kernel_rfl)
abbrev gnA (g : Gn) : AV := .agg [.d (AO g.spots), .int g.init, .d (Bp g.next), .d (BA g.sets), .int g.many]
theorem Lc (g : Gn) : grA g.gr = gnA g := by
 unfold grA gnA Gn.gr
 rw [KQ, Z1]
theorem GO (G : List (Nat × List D)) (g : Gn) (fr : List Nat) (hnl : g.next.length = g.spots.length) (hto : ∀ i, ∀ k ∈ g.nx i, k < g.spots.length) (hfr : ∀ j ∈ fr, j < g.spots.length) (hsz : g.spots.length ≤ 20000) :
 ACr Tryz.prog G 121 [gnA g, .d (BA fr)] (.d (Ap (Dk g.nx g.spots.length fr))) := by
 refine AC.factN (g := Kf) (f := Gj) (xss := g.next) 1 8 (fun _ => rfl) (.agg (.there (.there .here))) fun hN => ?_
 refine AC.factI (f := Gj) (xs := fr) (.there .here) fun hfl => ?_
 refine AK (ts := [4]) Tryz.f121.ntmps Tryz.func121 rfl rfl rfl (by simp [Tryz.ntmps121]) fun W I => ?_
 repeat' (first | exact jA | refine AP ?_ | refine two ?_ ?_ | refine imp fun hc => ?_; try exact cx hc | refine all fun v_ => ?_)
 rename_i bg
 refine AG (X := List Int × Nat) (fun y => [(1, .d (BA fr)), (2, .val (.pointer (some ⟨bg, 0, none⟩))), (5, .val (.slice (some ⟨v_, 0, none⟩) g.spots.length g.spots.length)), (6, .int y.2)]) (fun y => [.cells v_ 3 (y.1.map AV.int), .cells bg 51 [.d (AO g.spots), .int g.init, .d (Bp g.next), .d (BA g.sets), .int g.many]]) (fun y => y.2 ≤ fr.length ∧ y.1.length = g.spots.length ∧ (∀ v, gi y.1 v = 0 ∨ gi y.1 v = 1) ∧ (∀ v, gi y.1 v ≠ 0 → v ∈ fr) ∧ ∀ (m : Nat) (hm : m < fr.length), m < y.2 → gi y.1 fr[m] ≠ 0) (fun y => fr.length - y.2) (List.replicate g.spots.length 0, 0) ⟨Nat.zero_le _, by simp, fun v => .inl (Hi _ _), fun v h => absurd (Hi _ _) h, fun _ _ h => by omega⟩ (VS.of_le ?_) ?_
 · exact leD
 rintro ⟨st, i⟩ ⟨h1, h2, h3, h4, h5⟩
 dsimp only at h1 h2 h3 h4 h5 ⊢
 by_cases hi : i < fr.length
 · have hk := hfr fr[i] (jb hi)
   repeat' (first | exact jA | refine AP ?_ | refine two ?_ ?_ | refine imp fun hc => ?_; try exact cx hc | refine all fun v_ => ?_)
   refine ⟨(st.set fr[i] 1, i + 1), ⟨by dsimp only; omega, by simp [h2], fun v => ?_, fun v hv => ?_, fun m hm hmi => ?_⟩, jC, VS.of_le ?_⟩
   · rw [Bt _ _ _ _ jB]; split
     · exact .inr rfl
     · exact h3 v
   · dsimp only at hv
     rw [Bt _ _ _ _ jB] at hv
     by_cases e : v = fr[i]
     · rw [e]; exact jb hi
     · rw [if_neg e] at hv; exact h4 v hv
   · dsimp only at hmi ⊢
     rw [Bt _ _ _ _ jB]; split
     · decide
     · rename_i hne
       exact h5 m hm (by
        have : m ≠ i := fun e => hne (by subst e; rfl)
        omega)
   · exact leD
 have hF : FI g.nx g.spots.length fr none st := ⟨h2, fun v => by rcases h3 v with h | h; exact .inl h; exact .inr (.inl h), fun v hv => ⟨v, h4 v hv, .refl v⟩, fun v hv => by
  obtain ⟨m, hm, rfl⟩ := List.getElem_of_mem hv
  exact h5 m hm jB, fun v hv => by rcases h3 v with h | h <;> omega⟩
 repeat' (first | exact jA | refine AP ?_ | refine two ?_ ?_ | refine imp fun hc => ?_; try exact cx hc | refine all fun v_ => ?_)
 refine AG (X := List Int × Bool) (fun y => [(2, .val (.pointer (some ⟨bg, 0, none⟩))), (5, .val (.slice (some ⟨v_, 0, none⟩) g.spots.length g.spots.length)), (7, .bool y.2)]) (fun y => [.cells v_ 3 (y.1.map AV.int), .cells bg 51 [.d (AO g.spots), .int g.init, .d (Bp g.next), .d (BA g.sets), .int g.many]]) (fun y => FI g.nx g.spots.length fr none y.1 ∧ (y.2 = false → ∀ i, i < g.spots.length → gi y.1 i ≠ 1)) (fun y => 2 * IG y.1 + (if y.2 then 1 else 0)) (st, true) ⟨hF, fun h => by cases h⟩ (VS.of_le ?_) ?_
 · exact leD
 clear hF h1 h2 h3 h4 h5 hi
 rintro ⟨st, ag⟩ ⟨k1, k2⟩
 dsimp only at k1 k2 ⊢
 have hl := k1.len
 cases ag with
 | false =>
   repeat' (first | exact jA | refine AP ?_ | refine two ?_ ?_ | refine imp fun hc => ?_; try exact cx hc | refine all fun v_ => ?_)
   refine Db (E := 4) (sz := 1) IA ?_
   refine Dn (X := Nat × Sl) (fun y => [(5, .val (.slice (some ⟨v_, 0, none⟩) g.spots.length g.spots.length)), (10, .val y.2.v), (11, .int y.1)]) (fun y => [AL y.2.v 4 1 IA ((st.map fun s => decide (0 < s)).take y.1), .cells v_ 3 (st.map AV.int), .cells bg 51 [.d (AO g.spots), .int g.init, .d (Bp g.next), .d (BA g.sets), .int g.many]]) (fun y => y.1 ≤ st.length) (fun y => st.length - y.1) (0, Sl.nil) (Nat.zero_le _) ?_ rfl ?_
   · exact leD
   rintro ⟨i, q⟩ h1
   dsimp only at h1 ⊢
   have hlen : ((st.map fun s => decide (0 < s)).take i).length = i := by rw [List.length_take, List.length_map]; omega
   by_cases hi : i < st.length
   · repeat' (first | exact jA | refine AP ?_ | refine two ?_ ?_ | refine imp fun hc => ?_; try exact cx hc | refine all fun v_ => ?_)
     refine ⟨(i + 1, v_), jC, jC, ?_, ?_⟩
     · exact leD
     · dsimp only
       rw [jZ (by rw [List.length_map]; exact hi), List.getElem_map]
   · repeat' (first | exact jA | refine AP ?_ | refine two ?_ ?_ | refine imp fun hc => ?_; try exact cx hc | refine all fun v_ => ?_)
     refine AI (VS.trans (VS.drop (h' := [AL q.v 4 1 IA ((st.map fun s => decide (0 < s)).take i)]) IE) (Bq (t := 4) (eb := 1) rfl rfl (fun x => rfl) jB)) ?_
     ((with_reducible apply rq1); rfl; rfl)
     refine AA ?_
     rw [List.take_of_length_le (by rw [List.length_map]; omega), k1.all (k2 rfl) hto]
 | true =>
   repeat' (first | exact jA | refine AP ?_ | refine two ?_ ?_ | refine imp fun hc => ?_; try exact cx hc | refine all fun v_ => ?_)
   refine AG (X := List Int × Bool × Nat) (fun y => [(2, .val (.pointer (some ⟨bg, 0, none⟩))), (5, .val (.slice (some ⟨v_, 0, none⟩) g.spots.length g.spots.length)), (7, .bool y.2.1), (8, .int y.2.2)]) (fun y => [.cells v_ 3 (y.1.map AV.int), .cells bg 51 [.d (AO g.spots), .int g.init, .d (Bp g.next), .d (BA g.sets), .int g.many]]) (fun y => FI g.nx g.spots.length fr none y.1 ∧ y.2.2 ≤ g.spots.length ∧ (y.2.1 = false → y.1 = st ∧ ∀ j, j < y.2.2 → gi st j ≠ 1) ∧ (y.2.1 = true → IG y.1 < IG st)) (fun y => g.spots.length - y.2.2) (st, false, 0) ⟨k1, Nat.zero_le _, fun _ => ⟨rfl, fun j h => absurd h (Nat.not_lt_zero j)⟩, fun h => (by cases h)⟩ (VS.of_le ?_) ?_
   · exact leD
   rintro ⟨s1, a1, i⟩ ⟨q1, q2, q3, q4⟩
   dsimp only at q1 q2 q3 q4 ⊢
   have hl1 := q1.len
   by_cases hi : ¬ i < g.spots.length
   · repeat' (first | exact jA | refine AP ?_ | refine two ?_ ?_ | refine imp fun hc => ?_; try exact cx hc | refine all fun v_ => ?_)
     refine ⟨(s1, a1), ⟨q1, fun h j hj => ?_⟩, ?_, VS.of_le ?_⟩
     · obtain ⟨e1, e2⟩ := q3 h
       rw [e1]; exact e2 j jB
     · dsimp only
       cases a1 with
       | false => rw [(q3 rfl).1]; simp
       | true => have := q4 rfl; simp; omega
     · exact leD
   replace hi := jY hi
   have hgi : gi s1 i = s1[i]'jB := B0 _ _ _
   by_cases h1 : ¬ gi s1 i = 1
   · have h1' : ¬ s1[i]'jB = 1 := by rw [← hgi]; exact h1
     repeat' (first | exact jA | refine AP ?_ | refine two ?_ ?_ | refine imp fun hc => ?_; try exact cx hc | refine all fun v_ => ?_)
     refine ⟨(s1, a1, i + 1), ⟨q1, jC, fun h => ⟨(q3 h).1, fun j hj => ?_⟩, q4⟩, jC, VS.of_le ?_⟩
     · by_cases e : j = i
       · rw [e, ← (q3 h).1]; exact h1
       · exact (q3 h).2 j (by dsimp only at hj; omega)
     · exact leD
   replace h1 := jY h1
   have h1' : s1[i]'jB = 1 := by rw [← hgi]; exact h1
   have hn2 := Ox s1 i jB (by rw [h1']; decide)
   have hsl : (s1.set i 2).length = g.spots.length := by simp [hl1]
   have hle2 : IG s1 ≤ IG st := by
    cases a1 with
    | false => rw [(q3 rfl).1]; exact Nat.le_refl _
    | true => exact Nat.le_of_lt (q4 rfl)
   repeat' (first | exact jA | refine AP ?_ | refine two ?_ ?_ | refine imp fun hc => ?_; try exact cx hc | refine all fun v_ => ?_)
   refine AG (X := List Int × Nat) (fun y => [(2, .val (.pointer (some ⟨bg, 0, none⟩))), (5, .val (.slice (some ⟨v_, 0, none⟩) g.spots.length g.spots.length)), (7, .bool true), (8, .int i), (9, .int y.2)]) (fun y => [.cells v_ 3 (y.1.map AV.int), .cells bg 51 [.d (AO g.spots), .int g.init, .d (Bp g.next), .d (BA g.sets), .int g.many]]) (fun y => FI g.nx g.spots.length fr (some (i, y.2)) y.1 ∧ gi y.1 i = 2 ∧ IG y.1 = IG (s1.set i 2) ∧ y.2 ≤ (g.nx i).length) (fun y => (g.nx i).length - y.2) (s1.set i 2, 0) ⟨q1.take h1, by rw [Bt _ _ _ _ jB, if_pos rfl], rfl, Nat.zero_le _⟩ (VS.of_le ?_) ?_
   · exact leD
   rintro ⟨s2, j⟩ ⟨r1, r2, r3, r4⟩
   dsimp only at r1 r2 r3 r4 ⊢
   have hl2 := r1.len
   have hnx := g.nx_get i jB
   have hlj := hN (g.next[i]'jB) (jb _)
   rw [hnx] at r4
   by_cases hj : j < (g.next[i]'jB).length
   · have hj' : j < (g.nx i).length := by rw [hnx]; exact hj
     have hkk := hto i _ (jb hj')
     have hm := r1.mark hto r2 hj'
     have hke : (g.nx i)[j] = (g.next[i]'jB)[j] := by simp only [hnx]
     rw [hke] at hm hkk
     have hgk : gi s2 ((g.next[i]'jB)[j]) = s2[(g.next[i]'jB)[j]]'jB := B0 _ _ _
     by_cases h0 : s2[(g.next[i]'jB)[j]]'jB = 0
     · have em : EV s2 ((g.next[i]'jB)[j]) = s2.set ((g.next[i]'jB)[j]) 1 := by rw [EV, hgk, if_pos h0]
       rw [em] at hm
       repeat' (first | exact jA | refine AP ?_ | refine two ?_ ?_ | refine imp fun hc => ?_; try exact cx hc | refine all fun v_ => ?_)
       refine ⟨(s2.set ((g.next[i]'jB)[j]) 1, j + 1), ⟨hm.1, hm.2.1, hm.2.2.trans r3, by dsimp only; rw [hnx]; omega⟩, by dsimp only; rw [hnx]; omega, VS.of_le ?_⟩
       exact leD
     · have em : EV s2 ((g.next[i]'jB)[j]) = s2 := by rw [EV, hgk, if_neg h0]
       rw [em] at hm
       repeat' (first | exact jA | refine AP ?_ | refine two ?_ ?_ | refine imp fun hc => ?_; try exact cx hc | refine all fun v_ => ?_)
       refine ⟨(s2, j + 1), ⟨hm.1, hm.2.1, r3, by dsimp only; rw [hnx]; omega⟩, by dsimp only; rw [hnx]; omega, VS.of_le ?_⟩
       exact leD
   · have ej : j = (g.nx i).length := by rw [hnx]; omega
     rw [ej] at r1
     repeat' (first | exact jA | refine AP ?_ | refine two ?_ ?_ | refine imp fun hc => ?_; try exact cx hc | refine all fun v_ => ?_)
     refine ⟨(s2, true, i + 1), ⟨r1.done, jC, fun h => (by cases h), fun _ => by dsimp only; omega⟩, jC, VS.of_le ?_⟩
     exact leD
theorem KY {p q : Prop} (hp : p) (h : p → q := by
 apply cmp; (focus (first
  | ((with_reducible apply GR); rfl; exact Ds; (focus exact GO _ _ _ hok.next (fun i => g.nx_lt hok i) (by assumption) hok.size); rfl)
  | ((with_reducible apply Cs); rfl; decide +kernel; rfl; exact Ds; (focus exact GO _ _ _ hok.next (fun i => g.nx_lt hok i) (by assumption) hok.size); rfl)
  ))
 exact fun h => h) : q := h hp
theorem Wj (G : List (Nat × List D)) (g : Gr) : ACr Tryz.prog G 70 [grA g] (.tup [.d (Ap (Dy g).1), .int (Dy g).2]) := by
 refine AK (ts := [2, 3]) Tryz.f70.ntmps Tryz.func70 rfl rfl rfl (by simp [Tryz.ntmps70]) fun W I => ?_
 have E := M0 G g
 by_cases hk : ¬ okG g
 · have e : Hg g = 9 := if_neg hk
   rw [e] at E
   repeat' (first | refine ca Bg (E) ?_ | refine KY ?_ | exact jA | refine AP ?_ | refine two ?_ ?_ | refine imp fun hc => ?_; try exact cx hc | refine all fun v_ => ?_)
   refine AI (VS.trans jE (Cj (t := 2) 1 1 rfl)) ?_
   ((with_reducible apply rq2); rfl; rfl; rfl)
   exact AA (by rw [KO hk]; rfl)
 obtain ⟨g, rfl, hok⟩ := GZ (jY hk)
 rw [FY (Gn.ok_gr hok)] at E
 rw [Lc] at E ⊢
 clear hk
 repeat' (first | refine ca Bg (E) ?_ | refine KY ?_ | exact jA | refine AP ?_ | refine two ?_ ?_ | refine imp fun hc => ?_; try exact cx hc | refine all fun v_ => ?_)
 rename Nat => bg
 have hb := hok.init
 have hs := hok.size
 refine Db (E := 3) (sz := 1) Gj ?_
 refine Dn (X := Nat × Sl) (fun y => [(1, .val (.pointer (some ⟨bg, 0, none⟩))), (5, .val y.2.v), (6, .int y.1)]) (fun y => [AL y.2.v 3 1 Gj (List.range y.1), .cells bg 51 [.d (AO g.spots), .int g.init, .d (Bp g.next), .d (BA g.sets), .int g.many]]) (fun y => y.1 ≤ g.init) (fun y => g.init - y.1) (0, Sl.nil) (Nat.zero_le _) ?_ rfl ?_
 · exact leD
 rintro ⟨i, q⟩ h1
 dsimp only at h1 ⊢
 by_cases hi : i < g.init
 · repeat' (first | refine ca Bg (E) ?_ | refine KY ?_ | exact jA | refine AP ?_ | refine two ?_ ?_ | refine imp fun hc => ?_; try exact cx hc | refine all fun v_ => ?_)
   refine ⟨(i + 1, v_), jC, jC, ?_, ?_⟩
   · exact leD
   · dsimp only
     rw [List.range_succ]
 obtain rfl : i = g.init := by omega
 have hfr : ∀ j ∈ List.range g.init, j < g.spots.length := fun j hj => by have := List.mem_range.1 hj; have := hok.init; omega
 refine IH (EA (h1 := []) (h' := [_]) 8 rfl rfl (fun _ => rfl) (by rw [List.length_range]; omega) (CvE.cons (t := 5) rfl .here (CvE.refl _ _ _)) (CvH.refl _)) ?_
 repeat' (first | refine ca Bg (E) ?_ | refine KY ?_ | exact jA | refine AP ?_ | refine two ?_ ?_ | refine imp fun hc => ?_; try exact cx hc | refine all fun v_ => ?_)
 refine AI jE ?_
 ((with_reducible apply rq2); rfl; rfl; rfl)
 exact AA (by rw [FV hok, Ts])
abbrev gh (bs bt bv : Nat) (n : Nat) (p : List Bool × List Nat) (q : Sl) : H := [.cells bs 109 [.val (.slice (some ⟨bv, 0, none⟩) n n)], .cells bv 4 (p.1.map AV.bool), .cells bt 49 [.val q.v], AL q.v 3 1 Gj p.2]
theorem visit (G : List (Nat × List D)) (bs bt bv n i : Nat) (p : List Bool × List Nat) (q : Sl) (hn : p.1.length = n) (hi : i < n) (hl : n ≤ 20000) (hp : p.2.length ≤ 100000) :
 AC Tryz.prog G 105 [.int i, .val (.pointer (some ⟨bs, 0, none⟩)), .val (.pointer (some ⟨bt, 0, none⟩))] (gh bs bt bv n p q) fun r h => ∃ q' : Sl, r = .ret (.tup []) ∧ h = gh bs bt bv n (CJ p i) q' := by
 refine Cz (ts := []) Tryz.f105.ntmps Tryz.func105 rfl rfl rfl (by simp [Tryz.ntmps105]) fun W I => ?_
 have hb := It p.1 i jB
 by_cases h : p.1[i]'jB = true
 · have e : CJ p i = p := by rw [CJ, hb, if_pos h]
   rw [e]
   repeat' (first | exact jA | refine AP ?_ | refine two ?_ ?_ | refine imp fun hc => ?_; try exact cx hc | refine all fun v_ => ?_)
   · exact rq0 rfl ⟨_, rfl, rfl⟩
   · rw [h] at hc; cases hc
 · have e : CJ p i = (p.1.set i true, p.2 ++ [i]) := by rw [CJ, hb, if_neg h]
   rw [e]
   repeat' (first | exact jA | refine AP ?_ | refine two ?_ ?_ | refine imp fun hc => ?_; try exact cx hc | refine all fun v_ => ?_)
   exact rq0 rfl ⟨_, rfl, rfl⟩
theorem Nx : ∀ n : Nat, IY (List.replicate n false) = n
 | 0 => rfl
 | n + 1 => by rw [List.replicate_succ, IY, Nx n]; simp [Nat.add_comm]
theorem XB {α : Type} (r : List α) (v : α) (h : ((((r ++ [v]).length : Nat) : Int) - 1).toNat < (r ++ [v]).length) : (r ++ [v])[((((r ++ [v]).length : Nat) : Int) - 1).toNat] = v := by
 have e : ((((r ++ [v]).length : Nat) : Int) - 1).toNat = r.length := by simp
 simp [e]
theorem Ur {α : Type} (r : List α) (v : α) : (r ++ [v]).take ((((r ++ [v]).length : Nat) : Int) - 1).toNat = r := by
 have e : ((((r ++ [v]).length : Nat) : Int) - 1).toNat = r.length := by simp
 rw [e, List.take_left]
theorem Yy (G : List (Nat × List D)) (g : Gr) : ACr Tryz.prog G 59 [grA g] (.tup [.d (Ap (Dy g).1), .int (Dy g).2]) := by
 refine AK (ts := [2, 3]) Tryz.f59.ntmps Tryz.func59 rfl rfl rfl (by simp [Tryz.ntmps59]) fun W I => ?_
 have E := Zt G g
 by_cases hk : ¬ okG g
 · have e : Hg g = 9 := if_neg hk
   rw [e] at E
   repeat' (first | refine ca Hr (E) ?_ | exact jA | refine AP ?_ | refine two ?_ ?_ | refine imp fun hc => ?_; try exact cx hc | refine all fun v_ => ?_)
   refine AI (VS.trans jE (Cj (t := 2) 1 1 rfl)) ?_
   ((with_reducible apply rq2); rfl; rfl; rfl)
   exact AA (by rw [KO hk]; rfl)
 obtain ⟨g, rfl, hok⟩ := GZ (jY hk)
 rw [FY (Gn.ok_gr hok)] at E
 rw [Lc] at E ⊢
 clear hk
 have hs := hok.size
 have hi0 := hok.init
 have hnl := hok.next
 repeat' (first | refine ca Hr (E) ?_ | exact jA | refine AP ?_ | refine two ?_ ?_ | refine imp fun hc => ?_; try exact cx hc | refine all fun v_ => ?_)
 rename_i bg bv bs
 rename Nat => bt
 refine Db (E := 3) (sz := 1) Gj ?_
 refine AG (X := (List Bool × List Nat) × Sl × Nat) (fun y => [(1, .val (.pointer (some ⟨bg, 0, none⟩))), (5, .val (.pointer (some ⟨bs, 0, none⟩))), (6, .val (.pointer (some ⟨bt, 0, none⟩))), (7, .val (.func (.func 105) #[] #[.pointer (some ⟨bs, 0, none⟩), .pointer (some ⟨bt, 0, none⟩)])), (23, .int g.init), (24, .int y.2.2)]) (fun y => [.cells bs 109 [.val (.slice (some ⟨bv, 0, none⟩) g.spots.length g.spots.length)], .cells bv 4 (y.1.1.map AV.bool), .cells bt 49 [.val y.2.1.v], AL y.2.1.v 3 1 Gj y.1.2, .cells bg 51 [.d (AO g.spots), .int g.init, .d (Bp g.next), .d (BA g.sets), .int g.many]]) (fun y => RI g none y.2.2 y.1 ∧ y.2.2 ≤ g.init ∧ muR y.1 ≤ 2 * g.spots.length) (fun y => g.init - y.2.2) ((List.replicate g.spots.length false, []), Sl.nil, 0) ⟨RI.start g, Nat.zero_le _, ?_⟩ (VS.take BF ?_) ?_
 · simp [muR, Nx]
 · exact leD
 rintro ⟨p, q, i⟩ ⟨h1, h2, h3⟩
 dsimp only at h1 h2 h3 ⊢
 have hp := h1.len
 have hp2 : p.2.length ≤ 100000 := by unfold muR at h3; omega
 by_cases hi : i < g.init
 · have hin : i < g.spots.length := by omega
   repeat' (first | refine cgv PV (visit _ bs bt bv _ i p q hp hin hs hp2) ?_ | exact jA | refine AP ?_ | refine two ?_ ?_ | refine imp fun hc => ?_; try exact cx hc | refine all fun v_ => ?_)
   have hm := Rg (p := p) (i := i) jB
   refine ⟨(CJ p i, v_, i + 1), ⟨h1.initStep hok hi, jC, jC⟩, jC, VS.of_le ?_⟩
   exact leD
 obtain rfl : i = g.init := by omega
 repeat' (first | exact jA | refine AP ?_ | refine two ?_ ?_ | refine imp fun hc => ?_; try exact cx hc | refine all fun v_ => ?_)
 refine AG (X := (List Bool × List Nat) × Sl) (fun y => [(1, .val (.pointer (some ⟨bg, 0, none⟩))), (5, .val (.pointer (some ⟨bs, 0, none⟩))), (6, .val (.pointer (some ⟨bt, 0, none⟩))), (7, .val (.func (.func 105) #[] #[.pointer (some ⟨bs, 0, none⟩), .pointer (some ⟨bt, 0, none⟩)]))]) (fun y => [.cells bs 109 [.val (.slice (some ⟨bv, 0, none⟩) g.spots.length g.spots.length)], .cells bv 4 (y.1.1.map AV.bool), .cells bt 49 [.val y.2.v], AL y.2.v 3 1 Gj y.1.2, .cells bg 51 [.d (AO g.spots), .int g.init, .d (Bp g.next), .d (BA g.sets), .int g.many]]) (fun y => RI g none g.init y.1 ∧ muR y.1 ≤ 2 * g.spots.length) (fun y => muR y.1) (p, q) ⟨h1, h3⟩ (VS.of_le ?_) ?_
 · exact leD
 clear h1 h3 hp hp2 hi h2
 rintro ⟨⟨s, td⟩, q⟩ ⟨h1, h3⟩
 dsimp only at h1 h3 ⊢
 have hp := h1.len
 have hp2 : td.length ≤ 100000 := by unfold muR at h3; dsimp only at h3; omega
 rcases List.eq_nil_or_concat td with e | ⟨r, v, e⟩
 · subst e
   repeat' (first | exact jA | refine AP ?_ | refine two ?_ ?_ | refine imp fun hc => ?_; try exact cx hc | refine all fun v_ => ?_)
   refine AI (VS.trans (VS.drop (h' := [.cells bv 4 (s.map AV.bool)]) IE) (vfz (t := 2) (f := IA) (h1 := []) 1 1 rfl rfl rfl (GA s) hp (fun _ => rfl) jB jB)) ?_
   ((with_reducible apply rq2); rfl; rfl; rfl)
   exact AA (by rw [FV hok, ← h1.all rfl])
 · rw [List.concat_eq_append] at e
   subst e
   have hv := h1.todo v (by simp)
   have hvn : v < g.next.length := by omega
   have hlr : ((r ++ [v]).length : Int) = r.length + 1 := by simp
   repeat' (first | exact jA | refine AP ?_ | refine two ?_ ?_ | refine imp fun hc => ?_; try exact cx hc | refine all fun v_ => ?_)
   simp only [XB, Ur]
   repeat' (first | exact jA | refine AP ?_ | refine two ?_ ?_ | refine imp fun hc => ?_; try exact cx hc | refine all fun v_ => ?_)
   have h1' := h1.pop (v := v) (r := r) rfl
   have hm1 : muR (s, r) < muR (s, r ++ [v]) := by simp [muR]
   have hnx := g.nx_get v hvn
   refine AG (X := (List Bool × List Nat) × Sl × Nat) (fun y => [(1, .val (.pointer (some ⟨bg, 0, none⟩))), (5, .val (.pointer (some ⟨bs, 0, none⟩))), (6, .val (.pointer (some ⟨bt, 0, none⟩))), (7, .val (.func (.func 105) #[] #[.pointer (some ⟨bs, 0, none⟩), .pointer (some ⟨bt, 0, none⟩)])), (49, .d (BA g.next[v])), (50, .int g.next[v].length), (51, .int y.2.2)]) (fun y => [.cells bs 109 [.val (.slice (some ⟨bv, 0, none⟩) g.spots.length g.spots.length)], .cells bv 4 (y.1.1.map AV.bool), .cells bt 49 [.val y.2.1.v], AL y.2.1.v 3 1 Gj y.1.2, .cells bg 51 [.d (AO g.spots), .int g.init, .d (Bp g.next), .d (BA g.sets), .int g.many]]) (fun y => RI g (some (v, y.2.2)) g.init y.1 ∧ bi y.1.1 v = true ∧ y.2.2 ≤ g.next[v].length ∧ muR y.1 ≤ muR (s, r)) (fun y => g.next[v].length - y.2.2) ((s, r), v_, 0) ⟨h1', hv.2, Nat.zero_le _, Nat.le_refl _⟩ (VS.of_le ?_) ?_
   · exact leD
   rintro ⟨p, q, j⟩ ⟨k1, k2, k3, k4⟩
   dsimp only at k1 k2 k3 k4 ⊢
   refine Bn (t := 49) rfl fun hlj => ?_
   have hpl := k1.len
   have hp3 : p.2.length ≤ 100000 := by
    have h5 : muR p ≤ 2 * g.spots.length := by omega
    unfold muR at h5; omega
   by_cases hj : j < g.next[v].length
   · have hj' : j < (g.nx v).length := by rw [hnx]; exact hj
     have hke : (g.nx v)[j] = g.next[v][j] := by simp only [hnx]
     have hkn := g.nx_lt hok v _ (jb hj')
     have ke := k1.edge hok k2 hj'
     rw [hke] at hkn ke
     repeat' (first | refine cgv PV (visit _ bs bt bv _ g.next[v][j] p q hpl hkn hs hp3) ?_ | exact jA | refine AP ?_ | refine two ?_ ?_ | refine imp fun hc => ?_; try exact cx hc | refine all fun v_ => ?_)
     have hm := Rg (p := p) (i := g.next[v][j]) jB
     refine ⟨(CJ p g.next[v][j], v_, j + 1), ⟨ke, Gg jB k2, jC, jC⟩, jC, VS.of_le ?_⟩
     exact leD
   · have ej : j = (g.nx v).length := by rw [hnx]; omega
     rw [ej] at k1
     repeat' (first | exact jA | refine AP ?_ | refine two ?_ ?_ | refine imp fun hc => ?_; try exact cx hc | refine all fun v_ => ?_)
     refine ⟨(p, q), ⟨k1.done, jC⟩, jC, VS.of_le ?_⟩
     exact leD
end Go.Proofs.YtnlfhnbcdfdhgaaGreatDoor
namespace Go.Av
open Go
section
variable {k : Kx} {Q : Exit → Env → H → Prop} {ρ : Env} {h : H} {ops : Array Oper} {listed : Array Bool} {n f i m d : Nat} {ty : TypeId} {pos : String} {after : Array Edge}
theorem RH {x : Operand} {ad : Addr} (ho : ops[i]? = some ⟨some d, .nilCheck x, ty, pos, after, none⟩) (hc : EM ops listed ops.size i = true) (hx : evO ρ x = some (.val (.pointer (some ad)))) (hd : Nat.blt d k.n = true)
 (hj : JXP k ops n f (listed.setIfInBounds i true) 0 n Q ((d, .val (.pointer (some ad))) :: ρ) h) : JXP k ops n (f + 1) listed i (m + 1) Q ρ h :=
 ⟨Kj ho hc (fun t ht => by cases ht; exact blt hd) (fun _ a _ _ h2 => ⟨.pointer (some ad), (by unfold AV.rel; rfl), .inl ⟨by simp [Region.wanted], fun w _ => by
  have e1 := AQ (h2.ev x) (AD hx)
  simp [execOp, e1]⟩⟩) hj.get⟩
theorem Xn {S : TypeId} {x : Operand} {fi b off fo : Nat} (ho : ops[i]? = some ⟨some d, .fieldAddr S x fi, ty, pos, after, none⟩) (hc : EM ops listed ops.size i = true) (hx : evO ρ x = some (.val (.pointer (some ⟨b, off, none⟩)))) (hF : Fld k.P S fi fo) (hd : Nat.blt d k.n = true)
 (hj : JXP k ops n f (listed.setIfInBounds i true) 0 n Q ((d, .val (.pointer (some ⟨b, off + fo, none⟩))) :: ρ) h) : JXP k ops n (f + 1) listed i (m + 1) Q ρ h :=
 ⟨Kj ho hc (fun t ht => by cases ht; exact blt hd) (fun _ a w' _ h2 => ⟨.pointer (some ⟨b, off + fo, none⟩), (by unfold AV.rel; rfl), .inl ⟨by simp [Region.wanted], fun w _ => by
  obtain ⟨fs, fd, it, hS, hf, hi, hne, rfl⟩ := hF.get
  have e1 := AQ (h2.ev x) (AD hx)
  simp [execOp, e1, Instr.fieldAt, run_underlying hS, hf, Instr.sureAddr, fieldPlace, sizeOf, typeInfo, hi, hne, Addr.add_lit]⟩⟩) hj.get⟩
end
end Go.Av
namespace Go.Proofs.YtnlfhnbcdfdhgaaGreatDoor
open Go Go.Av Go.Sp
theorem Pn : Cal Tryz.prog 103 := Cal.of Tryz.func103 (by kernel_rfl) (by kernel_rfl)
theorem LH : Cal Tryz.prog 153 := Cal.of Tryz.func153 (by kernel_rfl) (by kernel_rfl)
theorem Nj : Cal Tryz.prog 104 := Cal.of Tryz.func104 (by kernel_rfl) (by kernel_rfl)
def frC (p : Nat × Nat) : List D := [.i .i64 (p.1 : Int), .i .i64 (p.2 : Int)]
abbrev srH (sb bo bl bp n : Nat) (g : Gn) (s : TS) (qo qc : Sl) : H :=
 [.cells sb 180 [.d (AO g.spots), .int g.init, .d (Bp g.next), .d (BA g.sets), .int g.many, .val (.slice (some ⟨bo, 0, none⟩) n n), .val (.slice (some ⟨bl, 0, none⟩) n n), .val (.slice (some ⟨bp, 0, none⟩) n n), .val qo.v, .val qc.v, .int s.met],
  .cells bo 3 (s.order.map AV.int), .cells bl 3 (s.low.map AV.int), .cells bp 3 (s.part.map AV.int), AL qo.v 3 1 Gj s.opn, AL qc.v 215 2 frC s.calls]
structure Fit (n : Nat) (s : TS) : Prop where
 size : n ≤ 20000
 lo : s.order.length = n
 ll : s.low.length = n
 lp : s.part.length = n
 opn : s.opn.length ≤ n
 calls : s.calls.length ≤ n
 met : s.met ≤ n
theorem enter (G : List (Nat × List D)) (sb bo bl bp n a : Nat) (g : Gn) (s : TS) (qo qc : Sl) (ft : Fit n s) (ha : a < n) :
 AC Tryz.prog G 103 [.val (.pointer (some ⟨sb, 0, none⟩)), .int a] (srH sb bo bl bp n g s qo qc) fun r h => ∃ y : Sl × Sl, r = .ret (.tup []) ∧ h = srH sb bo bl bp n g (s.enter a) y.1 y.2 := by
 refine Cz (ts := []) Tryz.f103.ntmps Tryz.func103 rfl rfl rfl (by simp [Tryz.ntmps103]) fun W I => ?_
 obtain ⟨f1, f2, f3, f4, f5, f6, f7⟩ := ft
 refine Pt ?_
 refine NN (X := Unit) (fun _ => [(0, .val (.pointer (some ⟨sb, 0, none⟩))), (1, .int a)]) (fun _ => srH sb bo bl bp n g { s with met := s.met + 1 } qo qc) ?_ (fun _ => ?_)
 · repeat' (first | exact jA | refine AP ?_ | refine two ?_ ?_ | refine imp fun hc => ?_; try exact cx hc | refine all fun v_ => ?_)
   refine ⟨(), VS.of_le ?_⟩
   exact leD
 refine En ?_
 refine Pt ?_
 refine NN (X := Unit) (fun _ => [(0, .val (.pointer (some ⟨sb, 0, none⟩))), (1, .int a)]) (fun _ => srH sb bo bl bp n g { s with order := s.order.set a (s.met + 1), low := s.low.set a (s.met + 1), met := s.met + 1 } qo qc) ?_ (fun _ => ?_)
 · refine Hl mixed rfl (by (repeat (with_reducible apply Al)); exact len_nil) (by decide +kernel) ?_
   repeat (first
    | ((with_reducible apply R7); rfl; decide +kernel; rfl; rfl)
    | ((with_reducible apply RH); rfl; decide +kernel; rfl; rfl)
    | ((with_reducible apply Xn); rfl; decide +kernel; rfl; (focus (with_reducible exact FdC.h)); rfl)
    | with_reducible apply S7)
   refine Wa [(3, 14, _), (8, 19, _), (13, 24, _), (17, 28, _)] [3, 8, 13, 17] [14, 19, 24, 28] (.cons rfl Fq rfl rfl (.cons rfl Fq rfl rfl (.cons rfl Fq rfl rfl (.cons rfl Fq rfl rfl .nil)))) rfl rfl rfl (by decide +kernel) (by decide) (by decide) ?_
   repeat' (first | exact jA | refine AP ?_ | refine two ?_ ?_ | refine imp fun hc => ?_; try exact cx hc | refine all fun v_ => ?_)
   all_goals
    refine ⟨(), VS.of_le ?_⟩
    exact leD
 refine En ?_
 repeat' (first | refine i7 (DP (f := frC) (u := (a, 0))) ?_ | exact jA | refine AP ?_ | refine two ?_ ?_ | refine imp fun hc => ?_; try exact cx hc | refine all fun v_ => ?_)
 exact rq0 rfl ⟨(_, _), rfl, rfl⟩
end Go.Proofs.YtnlfhnbcdfdhgaaGreatDoor
