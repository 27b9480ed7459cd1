/- A bundle of this claim's own texts: V12 Ck. -/
import Derived.Test.YtajnpfgelpkijaaGreatDoorA7
import Derived.Test.YtajnpfgelpkijaaGreatDoorA27
import Derived.Test.YtajnpfgelpkijaaGreatDoorA36
import Derived.Test.YtajnpfgelpkijaaGreatDoorA42
import Derived.Test.YtajnpfgelpkijaaGreatDoorA43
set_option linter.unusedVariables false
set_option linter.unusedSimpArgs false
set_option maxRecDepth 100000
set_option maxHeartbeats 4000000
namespace Go.Proofs.YtajnpfgelpkijaaGreatDoor
open Go Go.Av Go.Sp
theorem OH : Cal Tryz.prog 34 := Cal.of Tryz.func34 (by kernel_rfl) (by kernel_rfl)
theorem Xa (g : Gr) (h : (Cp g).2 ≠ 0) : ACr Tryz.prog GP 34 [grA g] (.tup [.agg [.d (AP []), .d (AP [])], .int (Cp g).2]) := by
 have E := cn GP g
 generalize Cp g = p at E h ⊢
 obtain ⟨home, e⟩ := p
 dsimp only at E h ⊢
 refine Et (rs := [.cell 2 45, .tmp 3]) Tryz.f34.ntmps Tryz.func34 rfl rfl rfl (by simp [Tryz.ntmps34]) fun W I => ?_
 repeat' (first
  | refine ca Ns (E) ?_
  | exact True.intro | refine AJ ?_ | refine two ?_ ?_ | refine AG fun c_ => ?_
  | (refine imp fun hc => ?_) <;> try exact cx1 hc
  | refine all fun v_ => ?_)
 exact QX (xs := [.agg [.val (.slice none 0 0), .val (.slice none 0 0)], .int e]) (ys := [.agg [.d (AP []), .d (AP [])], .int e]) vid ⟨CI rfl (by (with_reducible exact ElC.h)) rfl (by exact Ai) rfl, Eg rfl, trivial⟩ ⟨AV.le_agg ⟨AV.le_nil 1 8, AV.le_nil 1 8, trivial⟩, AV.le_refl _, trivial⟩ rfl (h' := []) (List.nil_sublist _) (AD rfl)
def ar (g : Gn) (p : List Nat × List Nat) : Prop := O0 g p.1 p.2 ∧ p.1.length ≤ 20000 ∧ p.2.length ≤ 200000
theorem VW (g : Gn) (hok : g.ok) (home : Nat) (hh : home < g.spots.length) (hg : Ej g home) (hf : Cp g.gr = ((home : Int), 0)) : AC Tryz.prog GP 34 [gnA g] [] fun r h => ∃ v : {p : List Nat × List Nat // ar g p}, r = .ret (.tup [.agg [.d (AP (Aq v.1.1)), .d (AP (Aq v.1.2))], .int 0]) ∧ h = [] := by
 have E := cn GP g.gr
 have E2 := Zi GP g.gr
 rw [hf] at E
 rw [IV hok, ← MD, ← Fw] at E2
 rw [Lf] at E E2
 dsimp only at E E2
 have hs := hok.size
 have hi0 := hok.init
 have hm := hok.many
 refine Et (rs := [.cell 2 45, .tmp 3]) Tryz.f34.ntmps Tryz.func34 rfl rfl rfl (by simp [Tryz.ntmps34]) fun W I => ?_
 repeat' (first
  | refine ca Ns (E) ?_
  | refine ca Ih (E2) ?_
  | exact True.intro | refine AJ ?_ | refine two ?_ ?_ | refine AG fun c_ => ?_
  | (refine imp fun hc => ?_) <;> try exact cx1 hc
  | refine all fun v_ => ?_)
 obtain ⟨bx, rfl⟩ : ∃ x, x = v_ := ⟨v_, rfl⟩
 obtain ⟨bp, rfl⟩ : ∃ x, x = v_ := ⟨v_, rfl⟩
 obtain ⟨bh, rfl⟩ : ∃ x, x = v_ := ⟨v_, rfl⟩
 obtain ⟨b2, rfl⟩ : ∃ x, x = v_ := ⟨v_, rfl⟩
 obtain ⟨bg, rfl⟩ : ∃ x, x = v_ := ⟨v_, rfl⟩
 change J _ _ _ _ [.cells bx 145 [.d (AN g.spots), .int g.init, .d (BJ g.next), .d (Af g.sets), .int g.many], .cells bp 43 [.d (Af (A1 g))], .cells bh 3 [.int home], .cells b2 45 [.val (.slice none 0 0), .val (.slice none 0 0)], .cells bg 99 [.d (AN g.spots), .int g.init, .d (BJ g.next), .d (Af g.sets), .int g.many]]
 refine FQ (E := 3) (sz := 1) Ag ?_
 refine AL (X := Nat × Sl) (fun y => [(1, .val (.pointer (some ⟨bg, 0, none⟩))), (2, .val (.pointer (some ⟨b2, 0, none⟩))), (4, .val (.pointer (some ⟨bh, 0, none⟩))), (6, .val (.pointer (some ⟨bp, 0, none⟩))), (8, .val (.pointer (some ⟨bx, 0, none⟩))), (9, .val y.2.v), (40, .int g.init), (41, .int y.1)]) (fun y => [AF y.2.v 3 1 Ag (Aq (List.range y.1)), .cells bh 3 [.int home], .cells bp 43 [.d (Af (A1 g))], .cells bg 99 [.d (AN g.spots), .int g.init, .d (BJ g.next), .d (Af g.sets), .int g.many], .cells bx 145 [.d (AN g.spots), .int g.init, .d (BJ g.next), .d (Af g.sets), .int g.many], .cells b2 45 [.val (.slice none 0 0), .val (.slice none 0 0)]]) (fun y => y.1 ≤ g.init) (fun y => g.init - y.1) (0, Sl.nil) (Nat.zero_le _) (VS.take (by exact AB) ?_) ?_
 · exact leD
 rintro ⟨i, q⟩ hi
 dsimp only at hi ⊢
 have hil : (Aq (List.range i)).length = i := by simp
 by_cases hlt : i < g.init
 · have hsu : Aq (List.range (i + 1)) = Aq (List.range i) ++ [(i : Int)] := by simp [List.range_succ]
   repeat' (first
    | exact True.intro | refine AM ?_ | refine two ?_ ?_
    | (refine imp fun hc => ?_) <;> try exact cx hc
    | refine all fun v_ => ?_)
   refine ⟨(i + 1, v_), by dsimp only; omega, by dsimp only; omega, VS.take (by dsimp only; rw [hsu]; exact AB) ?_⟩
   exact leD
 obtain rfl : i = g.init := by omega
 have hi1 : 0 < g.init := by obtain ⟨j, hj, _⟩ := hg.1; omega
 have F1 := way g hok (List.range g.init) (fun _ => true) (fun k => decide (k = home)) 65 66 #[] #[.pointer (some ⟨bh, 0, none⟩)] (.cells bh 3 [.int home]) (.cells bp 43 [.d (Af (A1 g))]) (.cells bg 99 [.d (AN g.spots), .int g.init, .d (BJ g.next), .d (Af g.sets), .int g.many]) (.cells bx 145 [.d (AN g.spots), .int g.init, .d (BJ g.next), .d (Af g.sets), .int g.many]) UT TJ (fun k _ => las1 k _ _ _ _) (fun k _ => las2 home k bh _ _ _) (by intro e; have := congrArg List.length e; simp at this; omega) List.nodup_range (fun k hk => by have := List.mem_range.1 hk; omega)
 refine Rh (Ci (t := 9) (eb := 8) rfl rfl (fun x => rfl) (by rw [hil]; omega)) ?_
 repeat' (first
  | ((with_reducible apply jp); (focus ((with_reducible apply JC); (focus rfl))); (focus rfl))
  | exact True.intro | refine AM ?_ | refine two ?_ ?_
  | (refine imp fun hc => ?_) <;> try exact cx hc
  | refine all fun v_ => ?_)
 apply Au
 · rfl
 · exact Og
 · exact F1
 · exact AS
 · rfl
 · exact A8
 refine all fun w1 => ?_
 obtain ⟨ws, hw1, hwl1⟩ := w1
 dsimp only
 refine jp (Nt rfl) rfl ?_
 refine L3 ?_
 refine Cw ?_
 refine FF (IN (X := Unit) (fun _ => [(1, .val (.pointer (some ⟨bg, 0, none⟩))), (2, .val (.pointer (some ⟨b2, 0, none⟩))), (4, .val (.pointer (some ⟨bh, 0, none⟩))), (6, .val (.pointer (some ⟨bp, 0, none⟩))), (8, .val (.pointer (some ⟨bx, 0, none⟩))), (11, .d (AP (Aq ws))), (12, .val (.func (.func 67) #[] #[.pointer (some ⟨bp, 0, none⟩), .pointer (some ⟨bh, 0, none⟩)]))]) (fun _ => [.cells bh 3 [.int home], .cells bp 43 [.d (Af (A1 g))], .cells bg 99 [.d (AN g.spots), .int g.init, .d (BJ g.next), .d (Af g.sets), .int g.many], .cells bx 145 [.d (AN g.spots), .int g.init, .d (BJ g.next), .d (Af g.sets), .int g.many], .cells b2 45 [.val (.slice none 0 0), .val (.slice none 0 0)]]) ?_ fun _ => ?_)
 · repeat' (first
    | ((with_reducible apply jp); (focus ((with_reducible apply JC); (focus rfl))); (focus rfl))
    | exact True.intro | refine AM ?_ | refine two ?_ ?_
    | (refine imp fun hc => ?_) <;> try exact cx hc
    | refine all fun v_ => ?_)
   exact ⟨(), VS.take (by exact AB) (by exact leD)⟩
 refine FF (I5 ?_)
 refine jp (r := .int home) (ID rfl rfl (by exact Ai) rfl) rfl ?_
 refine Us rfl rfl (by (with_reducible exact ElC.h)) rfl ?_
 refine all fun q1 => ?_
 have hsl := hok.sets
 have hsn := Ce g.sets home (by omega)
 repeat' (first
  | exact True.intro | refine AM ?_ | refine two ?_ ?_
  | (refine imp fun hc => ?_) <;> try exact cx hc
  | refine all fun v_ => ?_)
 refine AL (X := Nat × List Nat × Sl × Nat × Nat) (fun y => [(1, .val (.pointer (some ⟨bg, 0, none⟩))), (2, .val (.pointer (some ⟨b2, 0, none⟩))), (4, .val (.pointer (some ⟨bh, 0, none⟩))), (6, .val (.pointer (some ⟨bp, 0, none⟩))), (8, .val (.pointer (some ⟨bx, 0, none⟩))), (11, .d (AP (Aq ws))), (12, .val (.func (.func 67) #[] #[.pointer (some ⟨bp, 0, none⟩), .pointer (some ⟨bh, 0, none⟩)])), (13, .val y.2.2.1.v), (14, .int y.2.2.2.1), (15, .int y.2.2.2.2), (63, .int g.many), (64, .int y.1)]) (fun y => [AF y.2.2.1.v 3 1 Ag (Aq y.2.1), .cells bh 3 [.int home], .cells bp 43 [.d (Af (A1 g))], .cells bg 99 [.d (AN g.spots), .int g.init, .d (BJ g.next), .d (Af g.sets), .int g.many], .cells bx 145 [.d (AN g.spots), .int g.init, .d (BJ g.next), .d (Af g.sets), .int g.many], .cells b2 45 [.val (.slice none 0 0), .val (.slice none 0 0)]]) (fun y => y.1 ≤ g.many ∧ Hv g home y.1 y.2.1 y.2.2.2.1 ∧ y.2.1.getLast? = some y.2.2.2.2 ∧ y.2.1.length ≤ 1 + 20000 * y.1 ∧ y.2.2.2.1 < 64) (fun y => g.many - y.1) (0, [home], q1, g.sets[home], home) ⟨Nat.zero_le _, hsn ▸ Hv.start hh hg.2, rfl, Nat.le_refl _, ?_⟩ (VS.take (by exact AB) ?_) ?_
 · have h1 := hok.bits home (by omega)
   exact Nat.lt_of_lt_of_le h1 (by have := Nat.pow_le_pow_right (n := 2) (by decide) hm; exact this)
 · exact leD
 rintro ⟨b, l, q2, met, a⟩ ⟨hb, hL, hla, hll, hmet⟩
 dsimp only at hb hL hla hll hmet ⊢
 have hbit : (bits .and .i64 ((met : Int) / 2 ^ (b : Int).toNat) 1 = 1) ↔ met.testBit b = true := by
  have e1 : (b : Int).toNat = b := Int.toNat_natCast b
  have e2 : (met : Int) / 2 ^ b = ((met / 2 ^ b : Nat) : Int) := by simp
  have e3 : met / 2 ^ b ≤ met := Nat.div_le_self _ _
  rw [← Of, e1]
  generalize met / 2 ^ b = z at e2 e3
  rw [eD (by rw [e2]; omega) (by rw [e2]; omega)]
 by_cases hbm : b < g.many
 · have hal := hL.ins a (List.mem_of_getLast? hla)
   obtain ⟨hal1, hal2⟩ := hal
   repeat' (first
    | exact True.intro | refine AM ?_ | refine two ?_ ?_
    | (refine imp fun hc => ?_) <;> try exact cx hc
    | refine all fun v_ => ?_)
   · refine ⟨(b + 1, l, q2, met, a), ⟨by dsimp only; omega, hL.skip (hbit.1 (by assumption)), hla, by dsimp only; omega, hmet⟩, by dsimp only; omega, VS.take (by exact AB) ?_⟩
     exact leD
   obtain ⟨bb, rfl⟩ : ∃ x, x = v_ := ⟨v_, rfl⟩
   have F2 := way g hok [a] (Hy g home) (fun k => (ni g.sets k).testBit b) 67 68 #[.pointer (some ⟨bp, 0, none⟩), .pointer (some ⟨bh, 0, none⟩)] #[.pointer (some ⟨bg, 0, none⟩), .pointer (some ⟨bb, 0, none⟩)] (.cells bh 3 [.int home]) (.cells bp 43 [.d (Af (A1 g))]) (.cells bg 99 [.d (AN g.spots), .int g.init, .d (BJ g.next), .d (Af g.sets), .int g.many]) (.cells bb 3 [.int b]) GH Su (fun k hk => eN g home k hk _ _ _ _) (fun k hk => las4 g hok b k hk (by omega) _ _ _ _) (by simp) (List.nodup_cons.2 ⟨List.not_mem_nil, List.nodup_nil⟩) (fun k hk => by rw [List.mem_singleton.1 hk]; exact hal1)
   apply Au
   · rfl
   · exact Og
   · exact F2
   · exact AS
   · rfl
   · exact A8
   refine all fun w2 => ?_
   obtain ⟨lw, hw2, hwl2⟩ := w2
   dsimp only
   obtain ⟨v, hv1, hv2⟩ := OI hok hg.2 hal1 hal2 hbm
   have hG := hw2.found hv1 hv2
   obtain ⟨t, rfl⟩ := hG.cons
   clear F2 F1
   repeat' (first
    | exact True.intro | refine AM ?_ | refine two ?_ ?_
    | (refine imp fun hc => ?_) <;> try exact cx hc
    | refine all fun v_ => ?_)
   have h64 := (S5 hok).2
   refine AL (X := Nat × Nat) (fun y => [(1, .val (.pointer (some ⟨bg, 0, none⟩))), (2, .val (.pointer (some ⟨b2, 0, none⟩))), (4, .val (.pointer (some ⟨bh, 0, none⟩))), (6, .val (.pointer (some ⟨bp, 0, none⟩))), (8, .val (.pointer (some ⟨bx, 0, none⟩))), (11, .d (AP (Aq ws))), (12, .val (.func (.func 67) #[] #[.pointer (some ⟨bp, 0, none⟩), .pointer (some ⟨bh, 0, none⟩)])), (13, .val q2.v), (14, .int y.2), (17, .d (AP (Aq (a :: t)))), (63, .int g.many), (64, .int b), (79, .d (Af t)), (80, .int t.length), (81, .int y.1)]) (fun y => [AF q2.v 3 1 Ag (Aq l), .cells bh 3 [.int home], .cells bp 43 [.d (Af (A1 g))], .cells bg 99 [.d (AN g.spots), .int g.init, .d (BJ g.next), .d (Af g.sets), .int g.many], .cells bx 145 [.d (AN g.spots), .int g.init, .d (BJ g.next), .d (Af g.sets), .int g.many], .cells b2 45 [.val (.slice none 0 0), .val (.slice none 0 0)]]) (fun y => y.1 ≤ t.length ∧ y.2 < 64 ∧ ∀ s, y.2.testBit s = true → met.testBit s = true ∨ ∃ x ∈ t.take y.1, (ni g.sets x).testBit s = true) (fun y => t.length - y.1) (0, met) ⟨Nat.zero_le _, hmet, fun s h => .inl h⟩ (VS.take (by exact AB) ?_) ?_
   · rw [Fw t, show t.length = (Aq t).length by simp]; exact leD
   rintro ⟨j, m2⟩ ⟨hj, hm2, hms⟩
   dsimp only at hj hm2 hms ⊢
   have htl : t.length + 1 ≤ g.spots.length := hwl2
   by_cases hjt : j < t.length
   · have htn := hG.lt t[j] (List.mem_cons_of_mem _ (List.getElem_mem hjt))
     have hgs := Ce g.sets t[j] (by omega)
     have hsl2 := U8 hok t[j]
     have hor : bits .or .i64 (m2 : Int) ((ni g.sets t[j] : Nat) : Int) = ((m2 ||| ni g.sets t[j] : Nat) : Int) := (bits_nat .i64 63 (by decide) ER m2 (ni g.sets t[j]) (by omega) (by omega)).2
     rw [hgs] at hor
     repeat' (first
      | exact True.intro | refine AM ?_ | refine two ?_ ?_
      | (refine imp fun hc => ?_) <;> try exact cx hc
      | refine all fun v_ => ?_)
     refine ⟨(j + 1, m2 ||| ni g.sets t[j]), ⟨by dsimp only; omega, Nat.or_lt_two_pow (n := 6) hm2 (by omega), fun s h => ?_⟩, by dsimp only; omega, VS.take (by exact AB) ?_⟩
     · dsimp only at h ⊢
       rw [Nat.testBit_or, Bool.or_eq_true] at h
       rw [List.take_succ_eq_append_getElem hjt]
       rcases h with h | h
       · rcases hms s h with h | ⟨x, hx, e⟩
         · exact .inl h
         · exact .inr ⟨x, List.mem_append_left _ hx, e⟩
       · exact .inr ⟨_, List.mem_append_right _ (List.mem_singleton.2 rfl), h⟩
     · dsimp only
       rw [hgs, ← hor]
       exact leD
   obtain rfl : j = t.length := by omega
   rw [List.take_length] at hms
   have hcl : (Aq l).length = l.length := by simp
   have hct : (Aq t).length = t.length := by simp
   have hlne : 0 < l.length := List.length_pos_iff.2 hL.ne
   repeat' (first
    | exact True.intro | refine AM ?_ | refine two ?_ ?_
    | (refine imp fun hc => ?_) <;> try exact cx hc
    | refine all fun v_ => ?_)
   have ec : Aq l ++ List.drop (Int.toNat 1) (Aq (a :: t)) = Aq (l ++ t) := by simp [Aq]
   have ecl : (Aq (l ++ t)).length = l.length + t.length := by simp
   rw [ec]
   repeat' (first
    | exact True.intro | refine AM ?_ | refine two ?_ ?_
    | (refine imp fun hc => ?_) <;> try exact cx hc
    | refine all fun v_ => ?_)
   have hne : l ++ t ≠ [] := List.length_pos_iff.1 (by rw [List.length_append]; omega)
   have hz : ∀ h, (Aq (l ++ t))[((Aq (l ++ t)).length - 1 : Int).toNat]'h = (((l ++ t).getLast hne : Nat) : Int) := fun h => by
    rw [List.getLast_eq_getElem, List.getElem_map]
    congr 2
    rw [ecl, List.length_append]
    omega
   refine ⟨(b + 1, l ++ t, v_, m2, (l ++ t).getLast hne), ⟨by dsimp only; omega, hL.join hla hG hms, List.getLast?_eq_some_getLast hne, by dsimp only; rw [List.length_append]; omega, hm2⟩, by dsimp only; omega, VS.take (by exact AB) ?_⟩
   dsimp only
   rw [← hz (by omega)]
   exact leD
 obtain rfl : b = g.many := by omega
 obtain ⟨hal1, hal2⟩ := hL.ins a (List.mem_of_getLast? hla)
 have hnl := hok.next
 have hnx := g.nx_get a (by omega)
 repeat' (first
  | exact True.intro | refine AM ?_ | refine two ?_ ?_
  | (refine imp fun hc => ?_) <;> try exact cx hc
  | refine all fun v_ => ?_)
 refine AL (X := Nat) (fun j => [(1, .val (.pointer (some ⟨bg, 0, none⟩))), (2, .val (.pointer (some ⟨b2, 0, none⟩))), (4, .val (.pointer (some ⟨bh, 0, none⟩))), (6, .val (.pointer (some ⟨bp, 0, none⟩))), (8, .val (.pointer (some ⟨bx, 0, none⟩))), (11, .d (AP (Aq ws))), (12, .val (.func (.func 67) #[] #[.pointer (some ⟨bp, 0, none⟩), .pointer (some ⟨bh, 0, none⟩)])), (13, .val q2.v), (108, .d (Af g.next[a])), (109, .int g.next[a].length), (110, .int j)]) (fun _ => [AF q2.v 3 1 Ag (Aq l), .cells bh 3 [.int home], .cells bp 43 [.d (Af (A1 g))], .cells bg 99 [.d (AN g.spots), .int g.init, .d (BJ g.next), .d (Af g.sets), .int g.many], .cells bx 145 [.d (AN g.spots), .int g.init, .d (BJ g.next), .d (Af g.sets), .int g.many], .cells b2 45 [.val (.slice none 0 0), .val (.slice none 0 0)]]) (fun j => j ≤ g.next[a].length ∧ ∀ x ∈ g.next[a].take j, Hy g home x = false) (fun j => g.next[a].length - j) 0 ⟨Nat.zero_le _, fun x hx => (by cases hx)⟩ (VS.take (by exact AB) ?_) ?_
 · exact leD
 rintro j ⟨hj, hno⟩
 refine EC (t := 108) rfl fun hlj => ?_
 by_cases hjl : j < g.next[a].length
 · have hka : g.next[a][j] ∈ g.nx a := by rw [hnx]; exact List.getElem_mem hjl
   have hkn := g.nx_lt hok a _ hka
   have hc3 := eN g home g.next[a][j] hkn bh bp (.cells bg 99 [.d (AN g.spots), .int g.init, .d (BJ g.next), .d (Af g.sets), .int g.many]) (.cells bx 145 [.d (AN g.spots), .int g.init, .d (BJ g.next), .d (Af g.sets), .int g.many])
   cases hin : Hy g home g.next[a][j] with
   | false =>
     rw [hin] at hc3
     repeat' (first
      | ((with_reducible apply Cq); (focus rfl); (focus rfl); (focus exact GH); (focus exact hc3); (focus exact AS); (focus rfl); (focus exact A8))
      | exact True.intro | refine AM ?_ | refine two ?_ ?_
      | (refine imp fun hc => ?_) <;> try exact cx hc
      | refine all fun v_ => ?_)
     refine ⟨j + 1, ⟨hjl, fun x hx => ?_⟩, by omega, VS.take (by exact AB) ?_⟩
     · rw [List.take_succ_eq_append_getElem hjl] at hx
       rcases List.mem_append.1 hx with hx | hx
       · exact hno x hx
       · rw [List.mem_singleton.1 hx]; exact hin
     · exact leD
   | true =>
     rw [hin] at hc3
     repeat' (first
      | ((with_reducible apply jp); (focus ((with_reducible apply JC); (focus rfl))); (focus rfl))
      | ((with_reducible apply Cq); (focus rfl); (focus rfl); (focus exact GH); (focus exact hc3); (focus exact AS); (focus rfl); (focus exact A8))
      | exact True.intro | refine AM ?_ | refine two ?_ ?_
      | (refine imp fun hc => ?_) <;> try exact cx hc
      | refine all fun v_ => ?_)
     have hkh : ni (A1 g) g.next[a][j] = home := of_decide_eq_true hin
     have F3 := way g hok [g.next[a][j]] (Hy g home) (fun k => decide (k = home)) 67 69 #[.pointer (some ⟨bp, 0, none⟩), .pointer (some ⟨bh, 0, none⟩)] #[.pointer (some ⟨bh, 0, none⟩)] (.cells bh 3 [.int home]) (.cells bp 43 [.d (Af (A1 g))]) (.cells bg 99 [.d (AN g.spots), .int g.init, .d (BJ g.next), .d (Af g.sets), .int g.many]) (.cells bx 145 [.d (AN g.spots), .int g.init, .d (BJ g.next), .d (Af g.sets), .int g.many]) GH Tf (fun k hk => eN g home k hk _ _ _ _) (fun k _ => las5 home k bh _ _ _) (by simp) (List.nodup_cons.2 ⟨List.not_mem_nil, List.nodup_nil⟩) (fun k hk => by rw [List.mem_singleton.1 hk]; exact hkn)
     apply Au
     · rfl
     · exact Og
     · exact F3
     · exact AS
     · rfl
     · exact A8
     refine all fun w3 => ?_
     obtain ⟨lw, hw3, hwl3⟩ := w3
     dsimp only
     have hG3 := hw3.found (Ly hok hh hg.2 hkn hkh) (decide_eq_true rfl)
     have hG1 := hw1.found (L8 hg.1) (decide_eq_true rfl)
     have hlp3 := List.length_pos_iff.2 hG3.ne
     have hlp1 := List.length_pos_iff.2 hG1.ne
     have hc3 : (Aq lw).length = lw.length := by simp
     have hc1 : (Aq ws).length = ws.length := by simp
     have hcl : (Aq l).length = l.length := by simp
     clear F3 F1
     repeat' (first
      | exact True.intro | refine AM ?_ | refine two ?_ ?_
      | (refine imp fun hc => ?_) <;> try exact cx hc
      | refine all fun v_ => ?_)
     have eS : List.take (((Aq ws).length : Int) - 1).toNat (Aq ws) = Aq ws.dropLast := by
      rw [List.dropLast_eq_take, hc1, show ((ws.length : Int) - 1).toNat = ws.length - 1 by omega, ← List.map_take]
     have eX : Aq l ++ List.take (((Aq lw).length : Int) - 1).toNat (Aq lw) = Aq (l ++ lw.dropLast) := by
      rw [List.dropLast_eq_take, hc3, show ((lw.length : Int) - 1).toNat = lw.length - 1 by omega, ← List.map_take]
      exact List.map_append.symm
     rw [eS, eX]
     have hlx : (Aq (l ++ lw.dropLast)).length ≤ 200000 := by rw [List.length_map, List.length_append, List.length_dropLast]; omega
     refine Jt (VS.trans (VS.take (hc := [AF v_.v 3 1 Ag (Aq (l ++ lw.dropLast)), .cells b2 45 [.d (AP (Aq ws.dropLast)), .val v_.v]]) (by exact AB) (Env.le_refl _)) (Gh (h1 := []) (h' := [.cells b2 45 [.d (AP (Aq ws.dropLast)), .d (AP (Aq (l ++ lw.dropLast)))]]) 8 rfl rfl (fun _ => rfl) (by omega) (CvE.refl _ _ _) (CvH.cells (.cons (.same _) (.cons .here .nil)) (.refl _)))) (xs := [.agg [.d (AP (Aq ws.dropLast)), .d (AP (Aq (l ++ lw.dropLast)))], .int 0]) ⟨CI rfl (by (with_reducible exact ElC.h)) rfl (by exact Ai) rfl, Eg rfl, trivial⟩ rfl (h' := []) (List.nil_sublist _) ?_
     refine ⟨⟨(ws.dropLast, l ++ lw.dropLast), hL.fits hla hka hin hG1 hG3, ?_, ?_⟩, rfl, rfl⟩
     · rw [List.length_dropLast]; omega
     · rw [List.length_map] at hlx; exact hlx
 · exfalso
   obtain ⟨k, hk, hki⟩ := Li hok hg.2 hal1 hal2
   rw [hnx] at hk
   have e : j = g.next[a].length := by omega
   have := hno k (by rw [e, List.take_length]; exact hk)
   rw [hki] at this; cases this
theorem Xo {g : Nat} {xs : List D} (h : Bn Tryz.prog (g + 2) 157 xs) : ∃ o : {o : Fo // Aj o.kind ∧ Aj o.val}, xs = o.1.cells := by
 obtain ⟨p0, p1, rfl, h0, h1⟩ := Ko Tryz.underlying157 h
 obtain ⟨a, rfl, ha⟩ := Ef h0
 obtain ⟨b, rfl, hb⟩ := Ef h1
 exact ⟨⟨⟨a, b⟩, ha, hb⟩, rfl⟩
theorem J9 {g : Nat} {xs : List D} (h : Bn Tryz.prog (g + 3) 39 xs) : ∃ l : List Fo, xs = [AN l] ∧ Bd l := by
 obtain ⟨l, rfl, _⟩ := H0 (sz := 2) (eb := 16) Tryz.underlying39 (by kernel_rfl) (by kernel_rfl) (f := fun o : {o : Fo // Aj o.kind ∧ Aj o.val} => o.1.cells) (fun _ h => Xo h) h
 refine ⟨l.map Subtype.val, by show _ = [D.l 2 16 ((l.map Subtype.val).map Fo.cells)]; rw [List.map_map]; rfl, fun o ho => ?_⟩
 obtain ⟨x, _, rfl⟩ := List.mem_map.1 ho
 exact x.2
theorem WY {g : Nat} {xs : List D} (h : Bn Tryz.prog (g + 4) 117 xs) : ∃ p : {p : Pl // Bd p.guard ∧ Aj p.var ∧ Bd p.value}, xs = p.1.cells := by
 obtain ⟨p0, p1, p2, p3, rfl, h0, h1, h2, h3⟩ := GX Tryz.underlying117 h
 obtain ⟨a, rfl, ha⟩ := J9 h0
 obtain ⟨b, rfl, hb⟩ := Ef h1
 obtain ⟨c, rfl, hc⟩ := J9 h2
 obtain ⟨e, rfl⟩ := Vw h3
 exact ⟨⟨⟨a, b, c, e⟩, ha, hb, hc⟩, rfl⟩
theorem To {g : Nat} {xs : List D} (h : Bn Tryz.prog (g + 5) 36 xs) : ∃ l : List Pl, xs = [GO l] ∧ ∀ p ∈ l, Bd p.guard ∧ Aj p.var ∧ Bd p.value := by
 obtain ⟨l, rfl, _⟩ := H0 (sz := 4) (eb := 64) Tryz.underlying36 (by kernel_rfl) (by kernel_rfl) (f := fun p : {p : Pl // Bd p.guard ∧ Aj p.var ∧ Bd p.value} => p.1.cells) (fun _ h => WY h) h
 refine ⟨l.map Subtype.val, by show _ = [D.l 4 64 ((l.map Subtype.val).map Pl.cells)]; rw [List.map_map]; rfl, fun o ho => ?_⟩
 obtain ⟨x, _, rfl⟩ := List.mem_map.1 ho
 exact x.2
theorem Mq {g : Nat} {xs : List D} (h : Bn Tryz.prog (g + 2) 35 xs) : ∃ a b : Int, xs = [.i .i64 a, .i .i64 b] ∧ Aj a ∧ Aj b := by
 obtain ⟨p0, p1, rfl, h0, h1⟩ := LP Tryz.underlying35 h
 obtain ⟨a, rfl, ha⟩ := Ef h0
 obtain ⟨b, rfl, hb⟩ := Ef h1
 exact ⟨a, b, rfl, ha, hb⟩
theorem Q9 {g : Nat} {xs : List D} (h : Bn Tryz.prog (g + 6) 38 xs) : ∃ d : De, xs = d.cells ∧ XA d := by
 obtain ⟨p0, p1, p2, p3, rfl, h0, h1, h2, h3⟩ := GX Tryz.underlying38 h
 obtain ⟨a, b, rfl, ha, hb⟩ := Mq h0
 obtain ⟨c, e, rfl, hc, he⟩ := Mq h1
 obtain ⟨i, j, rfl, hi, hj⟩ := Mq h2
 obtain ⟨l, rfl, hl⟩ := To h3
 exact ⟨⟨a, b, c, e, i, j, l⟩, rfl, ha, hb, hc, he, hi, hj, hl⟩
end Go.Proofs.YtajnpfgelpkijaaGreatDoor
