/- A bundle of this claim's own texts: V12 G22 G23 G25 N19. -/
import Derived.Test.YtibahljljjkceaaGreatDoorA20
import Derived.Test.YtibahljljjkceaaGreatDoorA28
import Derived.Test.YtibahljljjkceaaGreatDoorA31
import Derived.Test.YtibahljljjkceaaGreatDoorA34
import Derived.Test.YtibahljljjkceaaGreatDoorA38
import Derived.Test.YtibahljljjkceaaGreatDoorA42
import Derived.Test.YtibahljljjkceaaGreatDoorA44
set_option linter.unusedVariables false
set_option linter.unusedSimpArgs false
set_option maxRecDepth 100000
set_option maxHeartbeats 4000000
namespace Go.Proofs.YtibahljljjkceaaGreatDoor
open Go Go.Av Go.Sp
theorem MW : Cal Tryz.prog 32 := Cal.of Tryz.func32 (by kernel_rfl) (by kernel_rfl)
theorem Ud (g : Gr) (h : (CK g).2 ≠ 0) : ACr Tryz.prog GP 32 [grA g] (.tup [.agg [.d (AK []), .d (AK [])], .int (CK g).2]) := by
 have E := YW GP g
 generalize CK g = p at E h ⊢
 obtain ⟨home, e⟩ := p
 dsimp only at E h ⊢
 refine Ec (rs := [.cell 2 33, .tmp 3]) Tryz.f32.ntmps Tryz.func32 rfl rfl rfl (by simp [Tryz.ntmps32]) fun W I => ?_
 repeat' (first
  | refine ca MU (E) ?_
  | exact True.intro | refine AD ?_ | refine two ?_ ?_ | refine AB fun c_ => ?_
  | (refine imp fun hc => ?_) <;> try exact cx1 hc
  | refine all fun v_ => ?_)
 exact J9 (xs := [.agg [.val (.slice none 0 0), .val (.slice none 0 0)], .int e]) (ys := [.agg [.d (AK []), .d (AK [])], .int e]) vid ⟨Dt rfl (by (with_reducible exact ElC.h)) rfl (by exact Az) rfl, FP rfl, trivial⟩ ⟨AV.le_agg ⟨AV.le_nil 1 8, AV.le_nil 1 8, trivial⟩, AV.le_refl _, trivial⟩ rfl (h' := []) (List.nil_sublist _) (AA rfl)
def YU (g : Gn) (p : List Nat × List Nat) : Prop := Jr g p.1 p.2 ∧ p.1.length ≤ 20000 ∧ p.2.length ≤ 200000
theorem Sb (g : Gn) (hok : g.ok) (home : Nat) (hh : home < g.spots.length) (hg : GU g home) (hf : CK g.gr = ((home : Int), 0)) : AC Tryz.prog GP 32 [gnA g] [] fun r h => ∃ v : {p : List Nat × List Nat // YU g p}, r = .ret (.tup [.agg [.d (AK (A6 v.1.1)), .d (AK (A6 v.1.2))], .int 0]) ∧ h = [] := by
 have E := YW GP g.gr
 have E2 := Vt GP g.gr
 rw [hf] at E
 rw [FG hok, ← IQ, ← FX] at E2
 rw [HN] at E E2
 dsimp only at E E2
 have hs := hok.size
 have hi0 := hok.init
 have hm := hok.many
 refine Ec (rs := [.cell 2 33, .tmp 3]) Tryz.f32.ntmps Tryz.func32 rfl rfl rfl (by simp [Tryz.ntmps32]) fun W I => ?_
 repeat' (first
  | refine ca MU (E) ?_
  | refine ca IV (E2) ?_
  | exact True.intro | refine AD ?_ | refine two ?_ ?_ | refine AB fun c_ => ?_
  | (refine imp fun hc => ?_) <;> try exact cx1 hc
  | refine all fun v_ => ?_)
 obtain ⟨bx, rfl⟩ : ∃ x, x = v_ := ⟨v_, rfl⟩
 obtain ⟨bp, rfl⟩ : ∃ x, x = v_ := ⟨v_, rfl⟩
 obtain ⟨bh, rfl⟩ : ∃ x, x = v_ := ⟨v_, rfl⟩
 obtain ⟨b2, rfl⟩ : ∃ x, x = v_ := ⟨v_, rfl⟩
 obtain ⟨bg, rfl⟩ : ∃ x, x = v_ := ⟨v_, rfl⟩
 change J _ _ _ _ [.cells bx 136 [.d (AO g.spots), .int g.init, .d (As g.next), .d (AT g.sets), .int g.many], .cells bp 31 [.d (AT (BZ g))], .cells bh 3 [.int home], .cells b2 33 [.val (.slice none 0 0), .val (.slice none 0 0)], .cells bg 62 [.d (AO g.spots), .int g.init, .d (As g.next), .d (AT g.sets), .int g.many]]
 refine C4 (E := 3) (sz := 1) AW ?_
 refine AG (X := Nat × Sl) (fun y => [(1, .val (.pointer (some ⟨bg, 0, none⟩))), (2, .val (.pointer (some ⟨b2, 0, none⟩))), (4, .val (.pointer (some ⟨bh, 0, none⟩))), (6, .val (.pointer (some ⟨bp, 0, none⟩))), (8, .val (.pointer (some ⟨bx, 0, none⟩))), (9, .val y.2.v), (40, .int g.init), (41, .int y.1)]) (fun y => [AM y.2.v 3 1 AW (A6 (List.range y.1)), .cells bh 3 [.int home], .cells bp 31 [.d (AT (BZ g))], .cells bg 62 [.d (AO g.spots), .int g.init, .d (As g.next), .d (AT g.sets), .int g.many], .cells bx 136 [.d (AO g.spots), .int g.init, .d (As g.next), .d (AT g.sets), .int g.many], .cells b2 33 [.val (.slice none 0 0), .val (.slice none 0 0)]]) (fun y => y.1 ≤ g.init) (fun y => g.init - y.1) (0, Sl.nil) (Nat.zero_le _) (VS.take (by exact AI) ?_) ?_
 · exact leD
 rintro ⟨i, q⟩ hi
 dsimp only at hi ⊢
 have hil : (A6 (List.range i)).length = i := by simp
 by_cases hlt : i < g.init
 · have hsu : A6 (List.range (i + 1)) = A6 (List.range i) ++ [(i : Int)] := by simp [List.range_succ]
   repeat' (first
    | exact True.intro | refine AR ?_ | refine two ?_ ?_
    | (refine imp fun hc => ?_) <;> try exact cx hc
    | refine all fun v_ => ?_)
   refine ⟨(i + 1, v_), by dsimp only; omega, by dsimp only; omega, VS.take (by dsimp only; rw [hsu]; exact AI) ?_⟩
   exact leD
 obtain rfl : i = g.init := by omega
 have hi1 : 0 < g.init := by obtain ⟨j, hj, _⟩ := hg.1; omega
 have F1 := way g hok (List.range g.init) (fun _ => true) (fun k => decide (k = home)) 64 65 #[] #[.pointer (some ⟨bh, 0, none⟩)] (.cells bh 3 [.int home]) (.cells bp 31 [.d (AT (BZ g))]) (.cells bg 62 [.d (AO g.spots), .int g.init, .d (As g.next), .d (AT g.sets), .int g.many]) (.cells bx 136 [.d (AO g.spots), .int g.init, .d (As g.next), .d (AT g.sets), .int g.many]) Q0 Qo (fun k _ => las1 k _ _ _ _) (fun k _ => las2 home k bh _ _ _) (by intro e; have := congrArg List.length e; simp at this; omega) List.nodup_range (fun k hk => by have := List.mem_range.1 hk; omega)
 refine Ho (Bf (t := 9) (eb := 8) rfl rfl (fun x => rfl) (by rw [hil]; omega)) ?_
 repeat' (first
  | ((with_reducible apply jp); (focus ((with_reducible apply Kp); (focus rfl))); (focus rfl))
  | exact True.intro | refine AR ?_ | refine two ?_ ?_
  | (refine imp fun hc => ?_) <;> try exact cx hc
  | refine all fun v_ => ?_)
 apply DW
 · rfl
 · exact Nv
 · exact F1
 · exact Ap
 · rfl
 · exact C5
 refine all fun w1 => ?_
 obtain ⟨ws, hw1, hwl1⟩ := w1
 dsimp only
 refine jp (MZ rfl) rfl ?_
 refine NR ?_
 refine EF ?_
 refine Iz (LG (X := Unit) (fun _ => [(1, .val (.pointer (some ⟨bg, 0, none⟩))), (2, .val (.pointer (some ⟨b2, 0, none⟩))), (4, .val (.pointer (some ⟨bh, 0, none⟩))), (6, .val (.pointer (some ⟨bp, 0, none⟩))), (8, .val (.pointer (some ⟨bx, 0, none⟩))), (11, .d (AK (A6 ws))), (12, .val (.func (.func 66) #[] #[.pointer (some ⟨bp, 0, none⟩), .pointer (some ⟨bh, 0, none⟩)]))]) (fun _ => [.cells bh 3 [.int home], .cells bp 31 [.d (AT (BZ g))], .cells bg 62 [.d (AO g.spots), .int g.init, .d (As g.next), .d (AT g.sets), .int g.many], .cells bx 136 [.d (AO g.spots), .int g.init, .d (As g.next), .d (AT g.sets), .int g.many], .cells b2 33 [.val (.slice none 0 0), .val (.slice none 0 0)]]) ?_ fun _ => ?_)
 · repeat' (first
    | ((with_reducible apply jp); (focus ((with_reducible apply Kp); (focus rfl))); (focus rfl))
    | exact True.intro | refine AR ?_ | refine two ?_ ?_
    | (refine imp fun hc => ?_) <;> try exact cx hc
    | refine all fun v_ => ?_)
   exact ⟨(), VS.take (by exact AI) (by exact leD)⟩
 refine Iz (Kt ?_)
 refine jp (r := .int home) (IM rfl rfl (by exact Az) rfl) rfl ?_
 refine SN rfl rfl (by (with_reducible exact ElC.h)) rfl ?_
 refine all fun q1 => ?_
 have hsl := hok.sets
 have hsn := B4 g.sets home (by omega)
 repeat' (first
  | exact True.intro | refine AR ?_ | refine two ?_ ?_
  | (refine imp fun hc => ?_) <;> try exact cx hc
  | refine all fun v_ => ?_)
 refine AG (X := Nat × List Nat × Sl × Nat × Nat) (fun y => [(1, .val (.pointer (some ⟨bg, 0, none⟩))), (2, .val (.pointer (some ⟨b2, 0, none⟩))), (4, .val (.pointer (some ⟨bh, 0, none⟩))), (6, .val (.pointer (some ⟨bp, 0, none⟩))), (8, .val (.pointer (some ⟨bx, 0, none⟩))), (11, .d (AK (A6 ws))), (12, .val (.func (.func 66) #[] #[.pointer (some ⟨bp, 0, none⟩), .pointer (some ⟨bh, 0, none⟩)])), (13, .val y.2.2.1.v), (14, .int y.2.2.2.1), (15, .int y.2.2.2.2), (63, .int g.many), (64, .int y.1)]) (fun y => [AM y.2.2.1.v 3 1 AW (A6 y.2.1), .cells bh 3 [.int home], .cells bp 31 [.d (AT (BZ g))], .cells bg 62 [.d (AO g.spots), .int g.init, .d (As g.next), .d (AT g.sets), .int g.many], .cells bx 136 [.d (AO g.spots), .int g.init, .d (As g.next), .d (AT g.sets), .int g.many], .cells b2 33 [.val (.slice none 0 0), .val (.slice none 0 0)]]) (fun y => y.1 ≤ g.many ∧ Iv g home y.1 y.2.1 y.2.2.2.1 ∧ y.2.1.getLast? = some y.2.2.2.2 ∧ y.2.1.length ≤ 1 + 20000 * y.1 ∧ y.2.2.2.1 < 64) (fun y => g.many - y.1) (0, [home], q1, g.sets[home], home) ⟨Nat.zero_le _, hsn ▸ Iv.start hh hg.2, rfl, Nat.le_refl _, ?_⟩ (VS.take (by exact AI) ?_) ?_
 · have h1 := hok.bits home (by omega)
   exact Nat.lt_of_lt_of_le h1 (by have := Nat.pow_le_pow_right (n := 2) (by decide) hm; exact this)
 · exact leD
 rintro ⟨b, l, q2, met, a⟩ ⟨hb, hL, hla, hll, hmet⟩
 dsimp only at hb hL hla hll hmet ⊢
 have hbit : (bits .and .i64 ((met : Int) / 2 ^ (b : Int).toNat) 1 = 1) ↔ met.testBit b = true := by
  have e1 : (b : Int).toNat = b := Int.toNat_natCast b
  have e2 : (met : Int) / 2 ^ b = ((met / 2 ^ b : Nat) : Int) := by simp
  have e3 : met / 2 ^ b ≤ met := Nat.div_le_self _ _
  rw [← Ki, e1]
  generalize met / 2 ^ b = z at e2 e3
  rw [Zo (by rw [e2]; omega) (by rw [e2]; omega)]
 by_cases hbm : b < g.many
 · have hal := hL.ins a (List.mem_of_getLast? hla)
   obtain ⟨hal1, hal2⟩ := hal
   repeat' (first
    | exact True.intro | refine AR ?_ | refine two ?_ ?_
    | (refine imp fun hc => ?_) <;> try exact cx hc
    | refine all fun v_ => ?_)
   · refine ⟨(b + 1, l, q2, met, a), ⟨by dsimp only; omega, hL.skip (hbit.1 (by assumption)), hla, by dsimp only; omega, hmet⟩, by dsimp only; omega, VS.take (by exact AI) ?_⟩
     exact leD
   obtain ⟨bb, rfl⟩ : ∃ x, x = v_ := ⟨v_, rfl⟩
   have F2 := way g hok [a] (H4 g home) (fun k => (ni g.sets k).testBit b) 66 67 #[.pointer (some ⟨bp, 0, none⟩), .pointer (some ⟨bh, 0, none⟩)] #[.pointer (some ⟨bg, 0, none⟩), .pointer (some ⟨bb, 0, none⟩)] (.cells bh 3 [.int home]) (.cells bp 31 [.d (AT (BZ g))]) (.cells bg 62 [.d (AO g.spots), .int g.init, .d (As g.next), .d (AT g.sets), .int g.many]) (.cells bb 3 [.int b]) Gl Qf (fun k hk => ZM g home k hk _ _ _ _) (fun k hk => las4 g hok b k hk (by omega) _ _ _ _) (by simp) (List.nodup_cons.2 ⟨List.not_mem_nil, List.nodup_nil⟩) (fun k hk => by rw [List.mem_singleton.1 hk]; exact hal1)
   apply DW
   · rfl
   · exact Nv
   · exact F2
   · exact Ap
   · rfl
   · exact C5
   refine all fun w2 => ?_
   obtain ⟨lw, hw2, hwl2⟩ := w2
   dsimp only
   obtain ⟨v, hv1, hv2⟩ := S5 hok hg.2 hal1 hal2 hbm
   have hG := hw2.found hv1 hv2
   obtain ⟨t, rfl⟩ := hG.cons
   clear F2 F1
   repeat' (first
    | exact True.intro | refine AR ?_ | refine two ?_ ?_
    | (refine imp fun hc => ?_) <;> try exact cx hc
    | refine all fun v_ => ?_)
   have h64 := (OP hok).2
   refine AG (X := Nat × Nat) (fun y => [(1, .val (.pointer (some ⟨bg, 0, none⟩))), (2, .val (.pointer (some ⟨b2, 0, none⟩))), (4, .val (.pointer (some ⟨bh, 0, none⟩))), (6, .val (.pointer (some ⟨bp, 0, none⟩))), (8, .val (.pointer (some ⟨bx, 0, none⟩))), (11, .d (AK (A6 ws))), (12, .val (.func (.func 66) #[] #[.pointer (some ⟨bp, 0, none⟩), .pointer (some ⟨bh, 0, none⟩)])), (13, .val q2.v), (14, .int y.2), (17, .d (AK (A6 (a :: t)))), (63, .int g.many), (64, .int b), (79, .d (AT t)), (80, .int t.length), (81, .int y.1)]) (fun y => [AM q2.v 3 1 AW (A6 l), .cells bh 3 [.int home], .cells bp 31 [.d (AT (BZ g))], .cells bg 62 [.d (AO g.spots), .int g.init, .d (As g.next), .d (AT g.sets), .int g.many], .cells bx 136 [.d (AO g.spots), .int g.init, .d (As g.next), .d (AT g.sets), .int g.many], .cells b2 33 [.val (.slice none 0 0), .val (.slice none 0 0)]]) (fun y => y.1 ≤ t.length ∧ y.2 < 64 ∧ ∀ s, y.2.testBit s = true → met.testBit s = true ∨ ∃ x ∈ t.take y.1, (ni g.sets x).testBit s = true) (fun y => t.length - y.1) (0, met) ⟨Nat.zero_le _, hmet, fun s h => .inl h⟩ (VS.take (by exact AI) ?_) ?_
   · rw [FX t, show t.length = (A6 t).length by simp]; exact leD
   rintro ⟨j, m2⟩ ⟨hj, hm2, hms⟩
   dsimp only at hj hm2 hms ⊢
   have htl : t.length + 1 ≤ g.spots.length := hwl2
   by_cases hjt : j < t.length
   · have htn := hG.lt t[j] (List.mem_cons_of_mem _ (List.getElem_mem hjt))
     have hgs := B4 g.sets t[j] (by omega)
     have hsl2 := SV hok t[j]
     have hor : bits .or .i64 (m2 : Int) ((ni g.sets t[j] : Nat) : Int) = ((m2 ||| ni g.sets t[j] : Nat) : Int) := (bits_nat .i64 63 (by decide) Ey m2 (ni g.sets t[j]) (by omega) (by omega)).2
     rw [hgs] at hor
     repeat' (first
      | exact True.intro | refine AR ?_ | refine two ?_ ?_
      | (refine imp fun hc => ?_) <;> try exact cx hc
      | refine all fun v_ => ?_)
     refine ⟨(j + 1, m2 ||| ni g.sets t[j]), ⟨by dsimp only; omega, Nat.or_lt_two_pow (n := 6) hm2 (by omega), fun s h => ?_⟩, by dsimp only; omega, VS.take (by exact AI) ?_⟩
     · dsimp only at h ⊢
       rw [Nat.testBit_or, Bool.or_eq_true] at h
       rw [List.take_succ_eq_append_getElem hjt]
       rcases h with h | h
       · rcases hms s h with h | ⟨x, hx, e⟩
         · exact .inl h
         · exact .inr ⟨x, List.mem_append_left _ hx, e⟩
       · exact .inr ⟨_, List.mem_append_right _ (List.mem_singleton.2 rfl), h⟩
     · dsimp only
       rw [hgs, ← hor]
       exact leD
   obtain rfl : j = t.length := by omega
   rw [List.take_length] at hms
   have hcl : (A6 l).length = l.length := by simp
   have hct : (A6 t).length = t.length := by simp
   have hlne : 0 < l.length := List.length_pos_iff.2 hL.ne
   repeat' (first
    | exact True.intro | refine AR ?_ | refine two ?_ ?_
    | (refine imp fun hc => ?_) <;> try exact cx hc
    | refine all fun v_ => ?_)
   have ec : A6 l ++ List.drop (Int.toNat 1) (A6 (a :: t)) = A6 (l ++ t) := by simp [A6]
   have ecl : (A6 (l ++ t)).length = l.length + t.length := by simp
   rw [ec]
   repeat' (first
    | exact True.intro | refine AR ?_ | refine two ?_ ?_
    | (refine imp fun hc => ?_) <;> try exact cx hc
    | refine all fun v_ => ?_)
   have hne : l ++ t ≠ [] := List.length_pos_iff.1 (by rw [List.length_append]; omega)
   have hz : ∀ h, (A6 (l ++ t))[((A6 (l ++ t)).length - 1 : Int).toNat]'h = (((l ++ t).getLast hne : Nat) : Int) := fun h => by
    rw [List.getLast_eq_getElem, List.getElem_map]
    congr 2
    rw [ecl, List.length_append]
    omega
   refine ⟨(b + 1, l ++ t, v_, m2, (l ++ t).getLast hne), ⟨by dsimp only; omega, hL.join hla hG hms, List.getLast?_eq_some_getLast hne, by dsimp only; rw [List.length_append]; omega, hm2⟩, by dsimp only; omega, VS.take (by exact AI) ?_⟩
   dsimp only
   rw [← hz (by omega)]
   exact leD
 obtain rfl : b = g.many := by omega
 obtain ⟨hal1, hal2⟩ := hL.ins a (List.mem_of_getLast? hla)
 have hnl := hok.next
 have hnx := g.nx_get a (by omega)
 repeat' (first
  | exact True.intro | refine AR ?_ | refine two ?_ ?_
  | (refine imp fun hc => ?_) <;> try exact cx hc
  | refine all fun v_ => ?_)
 refine AG (X := Nat) (fun j => [(1, .val (.pointer (some ⟨bg, 0, none⟩))), (2, .val (.pointer (some ⟨b2, 0, none⟩))), (4, .val (.pointer (some ⟨bh, 0, none⟩))), (6, .val (.pointer (some ⟨bp, 0, none⟩))), (8, .val (.pointer (some ⟨bx, 0, none⟩))), (11, .d (AK (A6 ws))), (12, .val (.func (.func 66) #[] #[.pointer (some ⟨bp, 0, none⟩), .pointer (some ⟨bh, 0, none⟩)])), (13, .val q2.v), (108, .d (AT g.next[a])), (109, .int g.next[a].length), (110, .int j)]) (fun _ => [AM q2.v 3 1 AW (A6 l), .cells bh 3 [.int home], .cells bp 31 [.d (AT (BZ g))], .cells bg 62 [.d (AO g.spots), .int g.init, .d (As g.next), .d (AT g.sets), .int g.many], .cells bx 136 [.d (AO g.spots), .int g.init, .d (As g.next), .d (AT g.sets), .int g.many], .cells b2 33 [.val (.slice none 0 0), .val (.slice none 0 0)]]) (fun j => j ≤ g.next[a].length ∧ ∀ x ∈ g.next[a].take j, H4 g home x = false) (fun j => g.next[a].length - j) 0 ⟨Nat.zero_le _, fun x hx => (by cases hx)⟩ (VS.take (by exact AI) ?_) ?_
 · exact leD
 rintro j ⟨hj, hno⟩
 refine Bs (t := 108) rfl fun hlj => ?_
 by_cases hjl : j < g.next[a].length
 · have hka : g.next[a][j] ∈ g.nx a := by rw [hnx]; exact List.getElem_mem hjl
   have hkn := g.nx_lt hok a _ hka
   have hc3 := ZM g home g.next[a][j] hkn bh bp (.cells bg 62 [.d (AO g.spots), .int g.init, .d (As g.next), .d (AT g.sets), .int g.many]) (.cells bx 136 [.d (AO g.spots), .int g.init, .d (As g.next), .d (AT g.sets), .int g.many])
   cases hin : H4 g home g.next[a][j] with
   | false =>
     rw [hin] at hc3
     repeat' (first
      | ((with_reducible apply DD); (focus rfl); (focus rfl); (focus exact Gl); (focus exact hc3); (focus exact Ap); (focus rfl); (focus exact C5))
      | exact True.intro | refine AR ?_ | refine two ?_ ?_
      | (refine imp fun hc => ?_) <;> try exact cx hc
      | refine all fun v_ => ?_)
     refine ⟨j + 1, ⟨hjl, fun x hx => ?_⟩, by omega, VS.take (by exact AI) ?_⟩
     · rw [List.take_succ_eq_append_getElem hjl] at hx
       rcases List.mem_append.1 hx with hx | hx
       · exact hno x hx
       · rw [List.mem_singleton.1 hx]; exact hin
     · exact leD
   | true =>
     rw [hin] at hc3
     repeat' (first
      | ((with_reducible apply jp); (focus ((with_reducible apply Kp); (focus rfl))); (focus rfl))
      | ((with_reducible apply DD); (focus rfl); (focus rfl); (focus exact Gl); (focus exact hc3); (focus exact Ap); (focus rfl); (focus exact C5))
      | exact True.intro | refine AR ?_ | refine two ?_ ?_
      | (refine imp fun hc => ?_) <;> try exact cx hc
      | refine all fun v_ => ?_)
     have hkh : ni (BZ g) g.next[a][j] = home := of_decide_eq_true hin
     have F3 := way g hok [g.next[a][j]] (H4 g home) (fun k => decide (k = home)) 66 68 #[.pointer (some ⟨bp, 0, none⟩), .pointer (some ⟨bh, 0, none⟩)] #[.pointer (some ⟨bh, 0, none⟩)] (.cells bh 3 [.int home]) (.cells bp 31 [.d (AT (BZ g))]) (.cells bg 62 [.d (AO g.spots), .int g.init, .d (As g.next), .d (AT g.sets), .int g.many]) (.cells bx 136 [.d (AO g.spots), .int g.init, .d (As g.next), .d (AT g.sets), .int g.many]) Gl Qn (fun k hk => ZM g home k hk _ _ _ _) (fun k _ => las5 home k bh _ _ _) (by simp) (List.nodup_cons.2 ⟨List.not_mem_nil, List.nodup_nil⟩) (fun k hk => by rw [List.mem_singleton.1 hk]; exact hkn)
     apply DW
     · rfl
     · exact Nv
     · exact F3
     · exact Ap
     · rfl
     · exact C5
     refine all fun w3 => ?_
     obtain ⟨lw, hw3, hwl3⟩ := w3
     dsimp only
     have hG3 := hw3.found (Qq hok hh hg.2 hkn hkh) (decide_eq_true rfl)
     have hG1 := hw1.found (RV hg.1) (decide_eq_true rfl)
     have hlp3 := List.length_pos_iff.2 hG3.ne
     have hlp1 := List.length_pos_iff.2 hG1.ne
     have hc3 : (A6 lw).length = lw.length := by simp
     have hc1 : (A6 ws).length = ws.length := by simp
     have hcl : (A6 l).length = l.length := by simp
     clear F3 F1
     repeat' (first
      | exact True.intro | refine AR ?_ | refine two ?_ ?_
      | (refine imp fun hc => ?_) <;> try exact cx hc
      | refine all fun v_ => ?_)
     have eS : List.take (((A6 ws).length : Int) - 1).toNat (A6 ws) = A6 ws.dropLast := by
      rw [List.dropLast_eq_take, hc1, show ((ws.length : Int) - 1).toNat = ws.length - 1 by omega, ← List.map_take]
     have eX : A6 l ++ List.take (((A6 lw).length : Int) - 1).toNat (A6 lw) = A6 (l ++ lw.dropLast) := by
      rw [List.dropLast_eq_take, hc3, show ((lw.length : Int) - 1).toNat = lw.length - 1 by omega, ← List.map_take]
      exact List.map_append.symm
     rw [eS, eX]
     have hlx : (A6 (l ++ lw.dropLast)).length ≤ 200000 := by rw [List.length_map, List.length_append, List.length_dropLast]; omega
     refine Tl (VS.trans (VS.take (hc := [AM v_.v 3 1 AW (A6 (l ++ lw.dropLast)), .cells b2 33 [.d (AK (A6 ws.dropLast)), .val v_.v]]) (by exact AI) (Env.le_refl _)) (Gj (h1 := []) (h' := [.cells b2 33 [.d (AK (A6 ws.dropLast)), .d (AK (A6 (l ++ lw.dropLast)))]]) 8 rfl rfl (fun _ => rfl) (by omega) (CvE.refl _ _ _) (CvH.cells (.cons (.same _) (.cons .here .nil)) (.refl _)))) (xs := [.agg [.d (AK (A6 ws.dropLast)), .d (AK (A6 (l ++ lw.dropLast)))], .int 0]) ⟨Dt rfl (by (with_reducible exact ElC.h)) rfl (by exact Az) rfl, FP rfl, trivial⟩ rfl (h' := []) (List.nil_sublist _) ?_
     refine ⟨⟨(ws.dropLast, l ++ lw.dropLast), hL.fits hla hka hin hG1 hG3, ?_, ?_⟩, rfl, rfl⟩
     · rw [List.length_dropLast]; omega
     · rw [List.length_map] at hlx; exact hlx
 · exfalso
   obtain ⟨k, hk, hki⟩ := RW hok hg.2 hal1 hal2
   rw [hnx] at hk
   have e : j = g.next[a].length := by omega
   have := hno k (by rw [e, List.take_length]; exact hk)
   rw [hki] at this; cases this
end Go.Proofs.YtibahljljjkceaaGreatDoor
namespace Go.Sp
open Go Go.Av

theorem QJ {x y c : Bool} (h : x ≠ c ↔ y ≠ c) : x = y := by revert h; cases x <;> cases y <;> cases c <;> simp
noncomputable def La.inf (a : La) (i : Nat) : Bool := open Classical in if ∃ k, a.up k i ≠ a.base then !a.base else a.base
theorem La.inf_iff (a : La) (i : Nat) : a.inf i ≠ a.base ↔ ∃ k, a.up k i ≠ a.base := by
 unfold La.inf
 by_cases h : ∃ k, a.up k i ≠ a.base
 · rw [if_pos h]; exact ⟨fun _ => h, fun _ => by cases a.base <;> decide⟩
 · rw [if_neg h]; exact ⟨fun k => absurd rfl k, fun k => absurd k h⟩
theorem La.fair_ex {a : La} {row : Nat → Bool} (hn : ∀ i, a.nxt i = i + 1) (h : ∀ i, row i = a.step i (row (i + 1))) : ∀ (d i : Nat), (row (i + d) = a.base ∨ a.stop (i + d) = true) → row i ≠ a.base → ∃ k, a.up k i ≠ a.base
 | d, i, hd, hr => by
   by_cases c : a.stop i = true
   · refine ⟨1, ?_⟩
     rw [h i, La.step, if_pos c] at hr
     show a.step i _ ≠ _
     rw [La.step, if_pos c]; exact hr
   · have e : row i = row (i + 1) := by rw [h i, La.step, if_neg c]
     cases d with
     | zero => exact hd.elim (fun k => absurd k hr) (fun k => absurd k c)
     | succ d =>
       obtain ⟨k, hk⟩ := La.fair_ex hn h d (i + 1) (by rw [show i + 1 + d = i + (d + 1) by omega]; exact hd) (e ▸ hr)
       refine ⟨k + 1, ?_⟩
       rw [La.up, La.step, if_neg c, hn]; exact hk
theorem La.fair_of {a : La} {row : Nat → Bool} (hn : ∀ i, a.nxt i = i + 1) (h : ∀ i, row i = a.step i (row (i + 1))) : ∀ (k i : Nat), a.up k i ≠ a.base → row i ≠ a.base
 | 0, _, hk => absurd rfl hk
 | k + 1, i, hk => by
   rw [h i]
   rw [La.up, hn] at hk
   by_cases c : a.up k (i + 1) = a.base
   · rw [c] at hk; exact a.step_mono hk _
   · rw [OJ (La.fair_of hn h k _ c) c]; exact hk
theorem La.fair {a : La} {row : Nat → Bool} (hn : ∀ i, a.nxt i = i + 1) (h : ∀ i, row i = a.step i (row (i + 1))) (hf : ∀ i, ∃ j, i ≤ j ∧ (row j = a.base ∨ a.stop j = true)) (i : Nat) : row i = a.inf i := by
 refine QJ (c := a.base) ⟨fun hr => (a.inf_iff i).2 ?_, fun hr => ?_⟩
 · obtain ⟨j, hij, hj⟩ := hf i
   exact La.fair_ex hn h (j - i) i (by rw [show i + (j - i) = j by omega]; exact hj) hr
 · obtain ⟨k, hk⟩ := (a.inf_iff i).1 hr
   exact La.fair_of hn h k i hk
theorem La.up_map {a b : La} (f : Nat → Nat) (hs : ∀ i, a.stop i = b.stop (f i)) (hv : ∀ i, a.val i = b.val (f i)) (hb : a.base = b.base) (hn : ∀ i, b.nxt (f i) = f (a.nxt i)) : ∀ (k i : Nat), a.up k i = b.up k (f i)
 | 0, _ => hb
 | k + 1, i => by rw [La.up, La.up, La.step, La.step, hs, hv, La.up_map f hs hv hb hn k, hn]
noncomputable def Rp (l : List Fo) (σ : Nat → Nat → Bool) (at_ : Nat) (A B : Nat → Bool) (i : Nat) : Bool :=
 if AQ l at_ = 13 then σ i (FQ l at_).toNat
 else if AQ l at_ = 11 then true
 else if AQ l at_ = 12 then false
 else if AQ l at_ = 10 then !A i
 else if AQ l at_ = 8 then A i && B i
 else if AQ l at_ = 9 then A i || B i
 else if AQ l at_ = 14 then A (i + 1)
 else (C8 (AQ l at_) A B Nat.succ).inf i
noncomputable def iv (l : List Fo) (σ : Nat → Nat → Bool) : Nat → Nat → Nat → Bool
 | 0, _ => fun _ => false
 | m + 1, i => if i < l.length then Rp l σ i (iv l σ m (i + 1)) (if i < second l i then iv l σ m (second l i) else fun _ => false) else fun _ => false
noncomputable def iAt (l : List Fo) (σ : Nat → Nat → Bool) (i : Nat) : Nat → Bool := iv l σ (l.length - i) i
theorem MR (l : List Fo) (σ : Nat → Nat → Bool) : ∀ (m i : Nat), l.length ≤ i + m → iv l σ m i = iAt l σ i := by
 intro m
 induction m using Nat.strongRecOn with
 | _ m ih =>
 intro i h
 unfold iAt
 by_cases hi : i < l.length
 · obtain ⟨m', rfl⟩ : ∃ m', m = m' + 1 := ⟨m - 1, by omega⟩
   obtain ⟨k, hk⟩ : ∃ k, l.length - i = k + 1 := ⟨l.length - i - 1, by omega⟩
   rw [hk]
   have e : ∀ j, i < j → iv l σ m' j = iv l σ k j := fun j hj => by
    rw [ih m' (by omega) j (by omega)]
    by_cases hkm : k < m' + 1
    · rw [ih k hkm j (by omega)]
    · omega
   simp only [iv, if_pos hi]
   rw [e (i + 1) (by omega)]
   by_cases h2 : i < second l i
   · rw [if_pos h2, if_pos h2, e _ h2]
   · rw [if_neg h2, if_neg h2]
 · rw [show l.length - i = 0 by omega]
   cases m with
   | zero => rfl
   | succ m => simp only [iv, if_neg hi]
theorem Vc (l : List Fo) (σ : Nat → Nat → Bool) (i : Nat) (hi : i < l.length) : iAt l σ i = Rp l σ i (iAt l σ (i + 1)) (if i < second l i then iAt l σ (second l i) else fun _ => false) := by
 rw [← MR l σ (l.length - (i + 1)) (i + 1) (by omega)]
 conv => lhs; rw [iAt, show l.length - i = (l.length - (i + 1)) + 1 by omega, iv, if_pos hi]
 by_cases h2 : i < second l i
 · rw [if_pos h2, if_pos h2, MR l σ _ (second l i) (by omega)]
 · rw [if_neg h2, if_neg h2]
theorem Rq (l : List Fo) (σ : Nat → Nat → Bool) (i : Nat) (hi : l.length ≤ i) : iAt l σ i = fun _ => false := by
 unfold iAt; rw [show l.length - i = 0 by omega]; rfl
theorem SU (l : List Fo) (al : List (List Bool)) (s i : Nat) (hi : l.length ≤ i) : wAt l al s i = fun _ => false := by
 unfold wAt; rw [show l.length - i = 0 by omega]; rfl
def Cq (s N : Nat) : Nat → Nat
 | 0 => 0
 | i + 1 => wnx s N (Cq s N i)
theorem Gh {s N : Nat} (hs : s < N) : ∀ i, Cq s N i < N
 | 0 => by unfold Cq; omega
 | i + 1 => by have := Gh hs i; rw [Cq, wnx]; split <;> omega
theorem Ko {s N : Nat} (hs : s < N) : ∀ (d i p : Nat), s ≤ p → p < N → (Cq s N i ≤ p → p ≤ Cq s N i + d) → (p < Cq s N i → N - Cq s N i + (p - s) ≤ d) → ∃ j, i ≤ j ∧ Cq s N j = p
 | 0, i, p, h1, h2, h3, h4 => by
   have := Gh hs i
   by_cases c : Cq s N i ≤ p
   · exact ⟨i, Nat.le_refl _, by have := h3 c; omega⟩
   · have := h4 (by omega); omega
 | d + 1, i, p, h1, h2, h3, h4 => by
   have hl := Gh hs i
   by_cases c : Cq s N i = p
   · exact ⟨i, Nat.le_refl _, c⟩
   have e : Cq s N (i + 1) = wnx s N (Cq s N i) := rfl
   obtain ⟨j, hj, hm⟩ := Ko hs d (i + 1) p h1 h2
    (fun k => by
     rw [e, wnx] at k ⊢
     by_cases c2 : Cq s N i + 1 < N
     · rw [if_pos c2] at k ⊢; have := h3 (by omega); omega
     · rw [if_neg c2] at k ⊢; have := h4 (by omega); omega)
    (fun k => by
     rw [e, wnx] at k ⊢
     by_cases c2 : Cq s N i + 1 < N
     · rw [if_pos c2] at k ⊢
       have := h4 (by omega); omega
     · rw [if_neg c2] at k ⊢; omega)
   exact ⟨j, by omega, hm⟩
theorem TG {s N p : Nat} (hs : s ≤ p) (hp : p < N) (i : Nat) : ∃ j, i ≤ j ∧ Cq s N j = p :=
 Ko (by omega) (2 * N) i p hs hp (fun _ => by omega) (fun _ => by omega)
theorem XP (l : List Fo) (al : List (List Bool)) (s : Nat) (hs : s < al.length) : ∀ (m p : Nat), l.length ≤ p + m → ∀ i, iAt l (fun i v => Of al (Cq s al.length i) v) p i = wAt l al s p (Cq s al.length i) := by
 intro m
 induction m with
 | zero => intro p h i; rw [Rq _ _ _ (by omega), SU _ _ _ _ (by omega)]
 | succ m ih =>
   intro p h i
   by_cases hp : p < l.length
   · rw [Vc _ _ _ hp, WD _ _ _ _ hp]
     have hA := ih (p + 1) (by omega)
     have hB : ∀ i, (if p < second l p then iAt l (fun i v => Of al (Cq s al.length i) v) (second l p) else fun _ => false) i = (if p < second l p then wAt l al s (second l p) else fun _ => false) (Cq s al.length i) := fun i => by
      by_cases c : p < second l p
      · rw [if_pos c, if_pos c, ih _ (by omega)]
      · rw [if_neg c, if_neg c]
     generalize (if p < second l p then iAt l (fun i v => Of al (Cq s al.length i) v) (second l p) else fun _ => false) = B at hB
     generalize (if p < second l p then wAt l al s (second l p) else fun _ => false) = B' at hB
     generalize iAt l (fun i v => Of al (Cq s al.length i) v) (p + 1) = A at hA
     generalize wAt l al s (p + 1) = A' at hA
     unfold Rp SS
     generalize AQ l p = k
     by_cases c1 : k = 13
     · rw [if_pos c1, if_pos c1]
     rw [if_neg c1, if_neg c1]
     by_cases c2 : k = 11
     · rw [if_pos c2, if_pos c2]
     rw [if_neg c2, if_neg c2]
     by_cases c3 : k = 12
     · rw [if_pos c3, if_pos c3]
     rw [if_neg c3, if_neg c3]
     by_cases c4 : k = 10
     · rw [if_pos c4, if_pos c4, hA]
     rw [if_neg c4, if_neg c4]
     by_cases c5 : k = 8
     · rw [if_pos c5, if_pos c5, hA, hB]
     rw [if_neg c5, if_neg c5]
     by_cases c6 : k = 9
     · rw [if_pos c6, if_pos c6, hA, hB]
     rw [if_neg c6, if_neg c6]
     by_cases c7 : k = 14
     · rw [if_pos c7, if_pos c7, hA]; rfl
     rw [if_neg c7, if_neg c7]
     have hb : (C8 k A B Nat.succ).base = (C8 k A' B' (wnx s al.length)).base := by unfold C8; split <;> (try split) <;> (try split) <;> rfl
     have hv : ∀ i, (C8 k A B Nat.succ).val i = (C8 k A' B' (wnx s al.length)).val (Cq s al.length i) := fun i => by unfold C8; split <;> (try split) <;> (try split) <;> first | rfl | exact hB i
     have ht : ∀ i, (C8 k A B Nat.succ).stop i = (C8 k A' B' (wnx s al.length)).stop (Cq s al.length i) := fun i => by unfold C8; split <;> (try split) <;> (try split) <;> simp only [hA, hB]
     have hm := La.up_map (a := C8 k A B Nat.succ) (b := C8 k A' B' (wnx s al.length)) (Cq s al.length) ht hv hb (fun i => by rw [FZ, FZ]; rfl)
     refine QJ (c := (C8 k A B Nat.succ).base) ?_
     rw [La.inf_iff, hb]
     have hu := (C8 k A' B' (wnx s al.length)).up_all al.length (Cq s al.length i) ((C8 k A' B' (wnx s al.length)).cover (FZ _ _ _ _) hs (Gh hs i))
     rw [← hu]
     exact ⟨fun ⟨k, hk⟩ => ⟨k, by rw [← hm]; exact hk⟩, fun ⟨k, hk⟩ => ⟨k, by rw [hm]; exact hk⟩⟩
   · rw [Rq _ _ _ (by omega), SU _ _ _ _ (by omega)]
theorem Xc {k : Int} (hk : Ao k) (h14 : k ≠ 14) (A B : Nat → Bool) (nx : Nat → Nat) (i : Nat) (a1 s b b1 : Bool) (hA : A i = a1) (hB : k = 15 ∨ k = 16 → B i = s) : (C8 k A B nx).step i b = H5 k a1 s b b1 := by
 have : k = 15 ∨ k = 16 ∨ k = 17 ∨ k = 18 := by unfold Ao at hk; omega
 rcases this with rfl | rfl | rfl | rfl
 · rw [Zi, hA, hB (.inl rfl)]; simp [H5]
 · rw [Yu, hA, hB (.inr rfl)]; simp [H5]
 · rw [Y0, hA]; simp [H5]
 · rw [ZH, hA]; simp [H5]
theorem ZF {k : Int} (hk : Ao k) (h14 : k ≠ 14) (A B : Nat → Bool) (nx : Nat → Nat) (i : Nat) (a b a1 s : Bool) (hA : A i = a1) (hB : k = 15 ∨ k = 16 → B i = s) (ha : a = (C8 k A B nx).step i b) : TJ k a a1 s = true ↔ (a = (C8 k A B nx).base ∨ (C8 k A B nx).stop i = true) := by
 have : k = 15 ∨ k = 16 ∨ k = 17 ∨ k = 18 := by unfold Ao at hk; omega
 rcases this with rfl | rfl | rfl | rfl
 · rw [Zi] at ha; subst ha; subst hA; have := hB (.inl rfl); subst this
   show (!(B i || A i && b) || B i) = true ↔ ((B i || A i && b) = false ∨ (B i || !A i) = true)
   cases A i <;> cases B i <;> cases b <;> decide
 · rw [Yu] at ha; subst ha; subst hA; have := hB (.inr rfl); subst this
   show ((B i && (A i || b)) || !B i) = true ↔ ((B i && (A i || b)) = true ∨ (!B i || A i) = true)
   cases A i <;> cases B i <;> cases b <;> decide
 · rw [Y0] at ha; subst ha; subst hA
   show (!(A i || b) || A i) = true ↔ ((A i || b) = false ∨ A i = true)
   cases A i <;> cases b <;> decide
 · rw [ZH] at ha; subst ha; subst hA
   show ((A i && b) || !A i) = true ↔ ((A i && b) = true ∨ (!A i) = true)
   cases A i <;> cases b <;> decide
theorem Hg.first {l : List Fo} {p : Int} (g : Hg l p) {q : Nat} (hq : q < l.length) (h : 1 ≤ (partsOf (AQ l q)).1) : q + 1 < l.length := by
 rw [An l q hq] at h
 exact (Cu hq (g.well q hq) h).1
theorem Hg.second {l : List Fo} {p : Int} (g : Hg l p) {q : Nat} (hq : q < l.length) (h : (partsOf (AQ l q)).1 = 2) : q < second l q ∧ second l q < l.length := by
 rw [An l q hq] at h
 have h1 := (Cu hq (g.well q hq) (by omega)).2.2.1
 exact ⟨by omega, (DS hq (g.well q hq) h).1⟩
theorem QM {l : List Fo} {p : Int} (g : Hg l p) (x : Nat → List Bool) (c : Nat → Int)
 (hk : ∀ i, kept l (tAt l (x i) (c i)) (tAt l (x (i + 1)) (c (i + 1))))
 (hf : ∀ q, q < l.length → Ao (AQ l q) → ∀ i, ∃ j, i ≤ j ∧ metAt l (tAt l (x j) (c j)) q = true) :
 ∀ (m q : Nat), l.length ≤ q + m → q < l.length → ∀ i, tAt l (x i) (c i) q = iAt l (fun i v => ((x i)[v]?).getD false) q i := by
 intro m
 induction m with
 | zero => intro q h hq; omega
 | succ m ih =>
   intro q h hq i
   have hA : 1 ≤ (partsOf (AQ l q)).1 → ∀ i, tAt l (x i) (c i) (q + 1) = iAt l (fun i v => ((x i)[v]?).getD false) (q + 1) i := fun h1 => ih (q + 1) (by omega) (g.first hq h1)
   have hB : (partsOf (AQ l q)).1 = 2 → ∀ i, tAt l (x i) (c i) (second l q) = iAt l (fun i v => ((x i)[v]?).getD false) (second l q) i := fun h1 => ih (second l q) (by have := g.second hq h1; omega) (g.second hq h1).2
   have hT : ∀ i, _ := fun i => Qa l (x i) (c i) q hq
   have hI := fun i => congrFun (Vc l (fun i v => ((x i)[v]?).getD false) q hq) i
   have hK := fun i => hk i q hq
   have hF := hf q hq
   have h2 := g.second hq
   have hkd := g.kind q hq
   rw [← An l q hq] at hkd
   unfold F9 at hK
   unfold metAt at hF
   unfold stepT at hT
   unfold Rp at hI
   generalize AQ l q = k at hA hB hT hI hK hF h2 hkd
   rcases Ot hkd with rfl | rfl | rfl | rfl | rfl | rfl | hk14
   · simp only [hT i, hI i, if_pos (h2 rfl).1]
     simp [hA (by decide) i, hB rfl i]
   · simp only [hT i, hI i, if_pos (h2 rfl).1]
     simp [hA (by decide) i, hB rfl i]
   · simp only [hT i, hI i]
     simp [hA (by decide) i]
   · simp [hT i, hI i]
   · simp [hT i, hI i]
   · simp [hT i, hI i]
   clear hT
   have hah : Ao k := by unfold Ao; omega
   have hp1 : 1 ≤ (partsOf k).1 := by rcases hk14 with rfl | rfl | rfl | rfl | rfl <;> decide
   have hK' := fun i => hK i hah
   by_cases c14 : k = 14
   · subst c14
     rw [hI, hK' i]
     simp [H5, hA (by decide)]
   rw [hI, if_neg (by omega), if_neg (by omega), if_neg (by omega), if_neg (by omega), if_neg (by omega), if_neg (by omega), if_neg c14]
   have hB' : k = 15 ∨ k = 16 → ∀ i, (if q < second l q then iAt l (fun i v => ((x i)[v]?).getD false) (second l q) else fun _ => false) i = tAt l (x i) (c i) (second l q) := fun hu i => by
    have e2 : (partsOf k).1 = 2 := by rcases hu with rfl | rfl <;> decide
    rw [if_pos (h2 e2).1, hB e2]
   generalize (if q < second l q then iAt l (fun i v => ((x i)[v]?).getD false) (second l q) else fun _ => false) = B at hB'
   have hst : ∀ i, tAt l (x i) (c i) q = (C8 k (iAt l (fun i v => ((x i)[v]?).getD false) (q + 1)) B Nat.succ).step i (tAt l (x (i + 1)) (c (i + 1)) q) := fun i => by
    rw [Xc hah c14 _ _ _ i (tAt l (x i) (c i) (q + 1)) (tAt l (x i) (c i) (second l q)) _ (tAt l (x (i + 1)) (c (i + 1)) (q + 1)) (hA hp1 i).symm (fun hu => hB' hu i)]
    exact hK' i
   refine La.fair (row := fun i => tAt l (x i) (c i) q) (fun i => by rw [FZ]) hst (fun i => ?_) i
   obtain ⟨j, hj, hm⟩ := hF hah i
   exact ⟨j, hj, (ZF hah c14 _ _ _ j _ _ _ _ (hA hp1 j).symm (fun hu => hB' hu j) (hst j)).1 hm⟩
theorem Oo {l : List Fo} {p : Int} (g : Hg l p) (x : Nat → List Bool) (c : Nat → Int)
 (hk : ∀ i, kept l (tAt l (x i) (c i)) (tAt l (x (i + 1)) (c (i + 1))))
 (hf : ∀ q, q < l.length → Ao (AQ l q) → ∀ i, ∃ j, i ≤ j ∧ metAt l (tAt l (x j) (c j)) q = true) :
 tAt l (x 0) (c 0) 0 = iAt l (fun i v => ((x i)[v]?).getD false) 0 0 :=
 QM g x c hk hf l.length 0 (by omega) g.pos 0
theorem KN (l : List Fo) (T : Nat → Nat → Bool) (i : Nat) : ∀ (n q : Nat), q < n → Ao (AQ l q) → MX (D1 l T i n) (Ay l q) = T q i
 | 0, q, h, _ => absurd h (Nat.not_lt_zero q)
 | n + 1, q, h, ha => by
   have hb := GA l T i n
   have hp : (0 : Int) < 2 ^ Ay l n := by exact_mod_cast Nat.pow_pos (by decide)
   by_cases e : q = n
   · subst e
     simp only [D1]
     unfold MX
     by_cases c2 : T q i = true
     · rw [if_pos ⟨ha, c2⟩, c2, decide_eq_true_iff, Int.add_ediv_of_dvd_right (Int.dvd_refl _), Int.ediv_eq_zero_of_lt hb.1 hb.2, Int.ediv_self (by omega)]; rfl
     · rw [if_neg (fun h => c2 h.2), Int.add_zero, Int.ediv_eq_zero_of_lt hb.1 hb.2, Bool.not_eq_true] at *
       rw [c2]; decide
   · have ih := KN l T i n q (by omega) ha
     have hr : Ay l q + 1 ≤ Ay l n := by
      have h1 := E0 l (n - (q + 1)) (q + 1)
      rw [show q + 1 + (n - (q + 1)) = n by omega] at h1
      simp only [Ay, if_pos ha] at h1; omega
     rw [← ih]
     simp only [D1]
     by_cases c : Ao (AQ l n) ∧ T n i = true
     · rw [if_pos c]
       unfold MX
       obtain ⟨d, hd⟩ : ∃ d, Ay l n = Ay l q + 1 + d := ⟨Ay l n - (Ay l q + 1), by omega⟩
       have e2 : (2 : Int) ^ Ay l n = 2 ^ Ay l q * (2 * 2 ^ d) := by rw [hd, Int.pow_add, Int.pow_succ]; ac_rfl
       have hq0 : (2 : Int) ^ Ay l q ≠ 0 := by
         have : (0 : Int) < 2 ^ Ay l q := by exact_mod_cast Nat.pow_pos (by decide)
         omega
       rw [e2, Int.add_mul_ediv_left _ _ hq0, Int.add_mul_emod_self_left]
     · rw [if_neg c, Int.add_zero]

theorem CF.at {nx : Nat → List Nat} {ins : Nat → Bool} : ∀ {l : List Nat}, CF nx ins l → ∀ (i : Nat) (h : i + 1 < l.length), l[i + 1] ∈ nx l[i]
 | [], _, i, h => by simp at h
 | [_], _, i, h => by simp at h
 | a :: b :: l, c, 0, h => c.1.1
 | a :: b :: l, c, i + 1, h => CF.at (l := b :: l) c.2 i (by simpa using h)
theorem Jr.way {g : Gn} {stem loop : List Nat} (w : Jr g stem loop) (i : Nat) :
 ni (stem ++ loop) (Cq stem.length (stem ++ loop).length (i + 1)) ∈ g.nx (ni (stem ++ loop) (Cq stem.length (stem ++ loop).length i)) := by
 have hlp := List.length_pos_iff.2 w.ne
 have hN : (stem ++ loop).length = stem.length + loop.length := List.length_append
 have hl := Gh (s := stem.length) (N := (stem ++ loop).length) (by omega) i
 obtain ⟨a, t, e⟩ : ∃ a t, loop = a :: t := by
  cases hlp' : loop with
  | nil => rw [hlp'] at hlp; simp at hlp
  | cons a t => exact ⟨a, t, rfl⟩
 have hc := w.chain a (by rw [e]; rfl)
 rw [Cq]
 generalize Cq stem.length (stem ++ loop).length i = m at hl
 have h1 := hc.at m (by rw [List.length_append]; simp; omega)
 rw [B4 _ _ hl]
 rw [List.getElem_append_left (by omega)] at h1
 by_cases c : m + 1 < (stem ++ loop).length
 · rw [wnx, if_pos c, B4 _ _ c]
   rw [List.getElem_append_left c] at h1
   exact h1
 · rw [wnx, if_neg c, B4 _ _ (by omega)]
   have e3 : (stem ++ loop ++ [a])[m + 1]'(by rw [List.length_append]; simp; omega) = a := by rw [List.getElem_append_right (by omega)]; simp
   rw [e3] at h1
   have e2 : (stem ++ loop)[stem.length]'(by omega) = a := by rw [List.getElem_append_right (Nat.le_refl _)]; simp [e]
   rw [e2]
   exact h1
theorem Jr.meets {g : Gn} {stem loop : List Nat} (w : Jr g stem loop) (s : Nat) (hs : s < g.many) (i : Nat) : ∃ j, i ≤ j ∧ (ni g.sets (ni (stem ++ loop) (Cq stem.length (stem ++ loop).length j))).testBit s = true := by
 obtain ⟨a, ha, hb⟩ := w.bits s hs
 obtain ⟨k, hk, rfl⟩ := List.getElem_of_mem ha
 have hN : (stem ++ loop).length = stem.length + loop.length := List.length_append
 obtain ⟨j, hj, e⟩ := TG (s := stem.length) (N := (stem ++ loop).length) (p := stem.length + k) (by omega) (by omega) i
 refine ⟨j, hj, ?_⟩
 rw [e, B4 (stem ++ loop) _ (by omega), List.getElem_append_right (by omega)]
 simpa using hb
theorem Jr.start {g : Gn} {stem loop : List Nat} (w : Jr g stem loop) : ni (stem ++ loop) 0 < g.init := by
 have hlp := List.length_pos_iff.2 w.ne
 have hN : (stem ++ loop).length = stem.length + loop.length := List.length_append
 rw [B4 _ _ (by omega)]
 exact w.first _ (by rw [List.head?_eq_getElem?, List.getElem?_eq_getElem (by omega)])

abbrev TC (t : Tk) (b : Fo) : Prop := (0 ≤ b.kind ∧ b.kind < AS t.model.vars) ∧ 0 ≤ b.val ∧ b.val < A4 t
theorem Jk {t : Tk} (h : BH t = 0) (b : Fo) : b ∈ (A7 t).1 ↔ b.kind = BB t.model ∧ ∃ c : Nat, b.val = c ∧ c < A4 t ∧ tAt t.formula (Bh t (BB t.model)) c 0 = false := by
 unfold A7
 rw [if_neg (fun k => k h)]
 unfold C3
 rw [List.mem_map]
 constructor
 · rintro ⟨c, hc, rfl⟩
   rw [List.mem_filter, List.mem_range] at hc
   exact ⟨rfl, c, rfl, hc.1, by simpa using hc.2⟩
 · rintro ⟨h1, c, h2, h3, h4⟩
   refine ⟨c, by rw [List.mem_filter, List.mem_range]; exact ⟨h3, by simpa using h4⟩, ?_⟩
   exact Fo.ext' h1.symm h2.symm
theorem Kj {t : Tk} (h : BH t = 0) {s : Fo} (hs : TC t s) (b : Fo) : b ∈ (A2 t s.kind s.val).1 ↔ b.kind ∈ (DV t.model s.kind).1 ∧ ∃ c : Nat, b.val = c ∧ c < A4 t ∧ QY t s.kind s.val b.kind c = true := by
 unfold A2
 rw [if_neg (fun k => k h), if_neg (fun k => k hs)]
 unfold H7
 rw [List.mem_flatMap]
 constructor
 · rintro ⟨x, hx, hb⟩
   unfold Ht at hb
   obtain ⟨c, hc, rfl⟩ := List.mem_map.1 hb
   rw [List.mem_filter, List.mem_range] at hc
   exact ⟨hx, c, rfl, hc.1, hc.2⟩
 · rintro ⟨h1, c, h2, h3, h4⟩
   refine ⟨b.kind, h1, ?_⟩
   unfold Ht
   rw [List.mem_map]
   exact ⟨c, by rw [List.mem_filter, List.mem_range]; exact ⟨h3, h4⟩, Fo.ext' rfl h2.symm⟩
theorem Sq {t : Tk} (h : BH t = 0) {b : Fo} (hb : b ∈ (A7 t).1) : TC t b := by
 obtain ⟨h1, c, h2, h3, _⟩ := (Jk h b).1 hb
 have hf := Hf (Bz h).2.2
 exact ⟨h1 ▸ hf.2, by omega, by omega⟩
theorem RP {t : Tk} (h : BH t = 0) {s b : Fo} (hb : b ∈ (A2 t s.kind s.val).1) : TC t b := by
 by_cases hs : TC t s
 · obtain ⟨h1, c, h2, h3, _⟩ := (Kj h hs b).1 hb
   exact ⟨HO (Bz h).2.2 _ _ h1, by omega, by omega⟩
 · unfold A2 at hb
   rw [if_neg (fun k => k h), if_pos hs] at hb
   cases hb
theorem NW {t : Tk} (h : BH t = 0) : ∀ i, ∀ b ∈ spF t i, TC t b
 | 0, b, hb => Sq h hb
 | i + 1, b, hb => by
   rw [spF] at hb
   cases hs : (spF t i)[i]? with
   | none => rw [hs] at hb; exact NW h i b hb
   | some s =>
     rw [hs] at hb
     rcases (Om _ _ _).1 hb with hb | hb
     · exact NW h i b hb
     · exact RP h hb
def grF (t : Tk) (e : Exp) (n : Nat) : Gr := ⟨e.spots, n, e.next, e.sets, (AZ t.formula t.props.length).1.length⟩
noncomputable def gnF (t : Tk) (e : Exp) : Gn := ⟨e.spots, (A7 t).1.length, e.next.map (·.map Int.toNat), e.sets.map Int.toNat, (AZ t.formula t.props.length).1.length⟩
theorem L0 (l : List Fo) (A : Nat → Bool) : ∀ n, Ee l A n = D1 l (fun q _ => metAt l A q) 0 n
 | 0 => rfl
 | n + 1 => by rw [Ee, D1, L0 l A n]
section
variable {t : Tk} {e : Exp}
theorem Grown.vld (g : Grown t e) : ∀ b ∈ e.spots, TC t b := fun b hb => by rw [g.spots] at hb; exact NW g.task _ b hb
theorem Grown.set (g : Grown t e) {j : Nat} (h : j < e.spots.length) : seF t j = Ee t.formula (tAt t.formula (Bh t e.spots[j].kind) e.spots[j].val) t.formula.length := by
 have hv := g.vld _ (List.getElem_mem h)
 rw [seF, g.at h]
 dsimp only
 rw [DZ g.task hv.1.1 hv.1.2]
 unfold CI
 rw [Ew g.task _ (EN t _) hv.2.1 hv.2.2, if_neg (by simp)]
theorem Grown.many (g : Grown t e) : (AZ t.formula t.props.length).1.length = Ay t.formula t.formula.length := by
 unfold AZ
 rw [if_neg (fun k => k (Bz g.task).2.1), DI]
theorem Grown.gr (g : Grown t e) : (gnF t e).gr = grF t e (A7 t).1.length := by
 unfold gnF grF Gn.gr
 dsimp only
 congr 1
 · rw [List.map_map, g.next, List.map_map]
   refine List.map_congr_left fun j hj => ?_
   have hj := List.mem_range.1 hj
   exact JR fun k hk => by obtain ⟨p, rfl, _⟩ := g.leads hj hk; exact Int.natCast_nonneg p
 · rw [g.sets]
   refine JR fun k hk => ?_
   obtain ⟨j, hj, rfl⟩ := List.mem_map.1 hk
   rw [g.set (List.mem_range.1 hj)]
   exact (FF _ _ _).1
theorem Grown.nx (g : Grown t e) {j : Nat} (h : j < e.spots.length) (k : Nat) : k ∈ (gnF t e).nx j ↔ (k : Int) ∈ plF t j := by
 have hl : j < (gnF t e).next.length := by simp [gnF, g.next, h]
 rw [Gn.nx_get _ _ hl]
 have e1 : (gnF t e).next[j] = (plF t j).map Int.toNat := by simp [gnF, g.next]
 rw [e1, List.mem_map]
 constructor
 · rintro ⟨y, hy, rfl⟩
   obtain ⟨p, rfl, _⟩ := g.leads h hy
   simpa using hy
 · intro hk
   exact ⟨_, hk, by simp⟩
theorem Grown.nset (g : Grown t e) {j : Nat} (h : j < e.spots.length) : ni (gnF t e).sets j = (seF t j).toNat := by
 have hl : j < (gnF t e).sets.length := by simp [gnF, g.sets, h]
 rw [B4 _ _ hl]
 simp [gnF, g.sets]
theorem Grown.bit (g : Grown t e) {j : Nat} (h : j < e.spots.length) {q : Nat} (hq : q < t.formula.length) (ha : Ao (AQ t.formula q)) : (ni (gnF t e).sets j).testBit (Ay t.formula q) = metAt t.formula (tAt t.formula (Bh t e.spots[j].kind) e.spots[j].val) q := by
 rw [g.nset h, g.set h, L0]
 have hb := GA t.formula (fun q _ => metAt t.formula (tAt t.formula (Bh t e.spots[j].kind) e.spots[j].val) q) 0 t.formula.length
 have hc := KN t.formula (fun q _ => metAt t.formula (tAt t.formula (Bh t e.spots[j].kind) e.spots[j].val) q) 0 t.formula.length q hq ha
 rw [← hc]
 unfold MX
 generalize D1 t.formula _ 0 t.formula.length = c at hb
 obtain ⟨n, rfl⟩ := Int.eq_ofNat_of_zero_le hb.1
 rw [Int.toNat_natCast]
 have := Ki n (Ay t.formula q)
 by_cases h : n.testBit (Ay t.formula q) = true
 · rw [h]; exact (decide_eq_true (this.2 h)).symm
 · rw [Bool.not_eq_true] at h
   rw [h]
   exact (decide_eq_false (fun k => by rw [this.1 k] at h; cases h)).symm
theorem Grown.ok (g : Grown t e) : (gnF t e).ok where
 size := g.few
 next := by simp [gnF, g.next]
 sets := by simp [gnF, g.sets]
 init := g.init
 many := EH _ _
 to := fun i h k hk => by
  have hi : i < e.spots.length := by simpa [gnF, g.next] using h
  have : k ∈ (gnF t e).nx i := by rw [Gn.nx_get _ _ h]; exact hk
  obtain ⟨p, hp, b, hb, _⟩ := g.leads hi ((g.nx hi k).1 this)
  obtain rfl : k = p := by omega
  exact (List.getElem?_eq_some_iff.1 hb).1
 bits := fun i h => by
  have hi : i < e.spots.length := by simpa [gnF, g.sets] using h
  have := g.nset hi
  rw [B4 _ _ h] at this
  rw [this, g.set hi]
  have hb := FF t.formula (tAt t.formula (Bh t e.spots[i].kind) e.spots[i].val) t.formula.length
  show _ < 2 ^ (AZ t.formula t.props.length).1.length
  rw [g.many]
  have e2 : ((2 ^ Ay t.formula t.formula.length : Nat) : Int) = 2 ^ Ay t.formula t.formula.length := by simp
  omega
end
def aC (m : Md) (π : Nat → Int) : Prop := π 0 = BB m ∧ ∀ i, π (i + 1) ∈ (DV m (π i)).1
noncomputable def XR (t : Tk) (π : Nat → Int) (i v : Nat) : Bool := ((Bh t (π i))[v]?).getD false
noncomputable def OQ (t : Tk) (π : Nat → Int) : Prop := iAt t.formula (XR t π) 0 0 = true
section
variable {t : Tk} {e : Exp}
theorem Grown.edge (g : Grown t e) {i j : Nat} (hi : i < e.spots.length) (h : j ∈ (gnF t e).nx i) : ∃ (hj : j < e.spots.length), e.spots[j].kind ∈ (DV t.model e.spots[i].kind).1 ∧ kept t.formula (tAt t.formula (Bh t e.spots[i].kind) e.spots[i].val) (tAt t.formula (Bh t e.spots[j].kind) e.spots[j].val) := by
 obtain ⟨p, hp, b, hb, hm⟩ := g.leads hi ((g.nx hi j).1 h)
 obtain rfl : j = p := by omega
 obtain ⟨hj, rfl⟩ := List.getElem?_eq_some_iff.1 hb
 obtain ⟨h1, c, h2, _, h4⟩ := (Kj g.task (g.vld _ (List.getElem_mem hi)) _).1 hm
 refine ⟨hj, h1, ?_⟩
 unfold QY at h4
 rw [h2]
 exact of_decide_eq_true h4
theorem Grown.bad (g : Grown t e) {ω : Nat → Nat} (h0 : ω 0 < (A7 t).1.length) (hs : ∀ i, ω (i + 1) ∈ (gnF t e).nx (ω i)) (hf : ∀ s, s < (gnF t e).many → ∀ i, ∃ j, i ≤ j ∧ (ni (gnF t e).sets (ω j)).testBit s = true) (π : Nat → Int) (hπ : ∀ i, (e.spots[ω i]?).map Fo.kind = some (π i)) : aC t.model π ∧ ¬ OQ t π := by
 have hin := g.init
 have hlt : ∀ i, ω i < e.spots.length := fun i => by
  cases i with
  | zero => omega
  | succ i => exact (gnF t e).nx_lt g.ok _ _ (hs i)
 have hπ' : ∀ i, π i = (e.spots[ω i]'(hlt i)).kind := fun i => by
  have := hπ i
  rw [List.getElem?_eq_getElem (hlt i)] at this
  exact (Option.some.inj this).symm
 have hb : e.spots[ω 0]'(hlt 0) ∈ (A7 t).1 := by
  have := g.first h0
  rw [List.getElem?_eq_getElem (hlt 0)] at this
  rw [Option.some.inj this]; exact List.getElem_mem h0
 obtain ⟨b1, c, b2, b3, b4⟩ := (Jk g.task _).1 hb
 refine ⟨⟨by rw [hπ']; exact b1, fun i => ?_⟩, fun hk => ?_⟩
 · obtain ⟨_, h1, _⟩ := g.edge (hlt i) (hs i)
   rw [hπ', hπ']; exact h1
 · have hx : XR t π = fun i v => ((Bh t ((e.spots[ω i]'(hlt i)).kind))[v]?).getD false := by
    funext i v; unfold XR; rw [hπ']
   have key := Oo (Eu (Bz g.task).2.1) (fun i => Bh t ((e.spots[ω i]'(hlt i)).kind)) (fun i => (e.spots[ω i]'(hlt i)).val)
    (fun i => (g.edge (hlt i) (hs i)).2.2)
    (fun q hq ha i => by
     have hr : Ay t.formula q < (gnF t e).many := by
      show _ < (AZ t.formula t.props.length).1.length
      rw [g.many]
      have h1 := E0 t.formula (t.formula.length - (q + 1)) (q + 1)
      rw [show q + 1 + (t.formula.length - (q + 1)) = t.formula.length by omega] at h1
      simp only [Ay, if_pos ha] at h1
      omega
     obtain ⟨j, hj, hb⟩ := hf _ hr i
     rw [g.bit (hlt j) hq ha] at hb
     exact ⟨j, hj, hb⟩)
   unfold OQ at hk
   rw [hx, ← key] at hk
   rw [b1, b2, b4] at hk
   cases hk
end
abbrev vdA (b : Bool) (stem loop : List Int) : AV := .agg [.bool b, .d (AK stem), .d (AK loop)]
def stS (sp : List Fo) (l : List Nat) : List Int := l.map fun k => ((sp[k]?).map Fo.kind).getD 0
theorem Dy (sp : List Fo) (l : List Nat) : (stS sp l).length = l.length := by simp [stS]
theorem PZ (sp : List Fo) (l : List Nat) (j : Nat) (h : j < l.length) (hl : l[j] < sp.length) : (stS sp l).take (j + 1) = (stS sp l).take j ++ [sp[l[j]].kind] := by
 have h2 : j < (stS sp l).length := by rw [Dy]; exact h
 rw [List.take_succ_eq_append_getElem h2]
 simp [stS, List.getElem?_eq_getElem hl]
theorem Kl {t : Tk} {e : Exp} (h : Ae t = (some e, 0)) : exG t = (gnF t e).gr ∧ Grown t e := by
 have g := UO h
 refine ⟨?_, g⟩
 rw [g.gr]; unfold exG grF; rw [h]
theorem JA {t : Tk} (h : (Ae t).2 = 0) : ∃ e, Ae t = (some e, 0) := by
 unfold Ae at h ⊢
 by_cases c : BH t ≠ 0
 · rw [if_pos c] at h; exact absurd h c
 · rw [if_neg c] at h ⊢
   cases hx : HH t 20002 0 (A7 t).1 [] [] with
   | none => rw [hx] at h; cases h
   | some e => exact ⟨e, rfl⟩
theorem Qr {g : Gn} (hok : g.ok) (h : (CK g.gr).2 = 0) : ∃ home : Nat, home < g.spots.length ∧ GU g home ∧ CK g.gr = ((home : Int), 0) := by
 rw [GH hok] at h ⊢
 cases hf : (List.range g.spots.length).find? fun i => decide (GU g i) with
 | none => rw [KI, hf] at h; cases h
 | some i =>
   have hi := List.mem_range.1 (List.mem_of_find?_eq_some hf)
   have hg : GU g i := by have := List.find?_some hf; exact of_decide_eq_true this
   exact ⟨i, hi, hg, by rw [KI, hf]⟩
end Go.Sp
namespace Go.Proofs.YtibahljljjkceaaGreatDoor
open Go Go.Av Go.Sp
theorem IU : Cal Tryz.prog 16 := Cal.of Tryz.func16 (by kernel_rfl) (by kernel_rfl)
theorem Ra (t : Tk) (h : (Ae t).2 ≠ 0) : ACr Tryz.prog GP 16 [tkA t] (.tup [vdA false [] [], .int (Ae t).2]) := by
 have hE := Nn t
 generalize (Ae t).2 = e at h hE ⊢
 refine Ec (rs := [.cell 2 35, .tmp 3]) Tryz.f16.ntmps Tryz.func16 rfl rfl rfl (by simp [Tryz.ntmps16]) fun W I => ?_
 repeat' (first
  | refine ca HR (hE) ?_
  | exact True.intro | refine AD ?_ | refine two ?_ ?_ | refine AB fun c_ => ?_
  | (refine imp fun hc => ?_) <;> try exact cx1 hc
  | refine all fun v_ => ?_)
 exact J9 (xs := [.agg [.bool false, .val (.slice none 0 0), .val (.slice none 0 0)], .int e]) (ys := [vdA false [] [], .int e]) vid ⟨Dt rfl (by (with_reducible exact ElC.h)) rfl (by exact Az) rfl, FP rfl, trivial⟩ ⟨AV.le_agg ⟨AV.le_refl _, AV.le_nil 1 8, AV.le_nil 1 8, trivial⟩, AV.le_refl _, trivial⟩ rfl (h' := []) (List.nil_sublist _) (AA rfl)
theorem Nl (t : Tk) (h : (Ae t).2 = 0) (hf : (CK (exG t)).2 ≠ 0) : ACr Tryz.prog GP 16 [tkA t] (.tup [vdA true [] [], .int 0]) := by
 have hE := Nn t
 have hL := Ud (exG t) hf
 rw [h] at hE
 generalize CK (exG t) = p at hf hL
 obtain ⟨home, e⟩ := p
 dsimp only at hf hL
 refine Ec (rs := [.cell 2 35, .tmp 3]) Tryz.f16.ntmps Tryz.func16 rfl rfl rfl (by simp [Tryz.ntmps16]) fun W I => ?_
 repeat' (first
  | refine ca HR (hE) ?_
  | refine ca MW (hL) ?_
  | exact True.intro | refine AD ?_ | refine two ?_ ?_ | refine AB fun c_ => ?_
  | (refine imp fun hc => ?_) <;> try exact cx1 hc
  | refine all fun v_ => ?_)
 exact J9 (xs := [.agg [.bool true, .val (.slice none 0 0), .val (.slice none 0 0)], .int 0]) (ys := [vdA true [] [], .int 0]) vid ⟨Dt rfl (by (with_reducible exact ElC.h)) rfl (by exact Az) rfl, FP rfl, trivial⟩ ⟨AV.le_agg ⟨AV.le_refl _, AV.le_nil 1 8, AV.le_nil 1 8, trivial⟩, AV.le_refl _, trivial⟩ rfl (h' := []) (List.nil_sublist _) (AA rfl)
theorem Sm (t : Tk) (e : Exp) (h : Ae t = (some e, 0)) (hf : (CK (exG t)).2 = 0) : AC Tryz.prog GP 16 [tkA t] [] fun r h => ∃ v : {p : List Nat × List Nat // YU (gnF t e) p}, r = .ret (.tup [vdA false (stS e.spots v.1.1) (stS e.spots v.1.2), .int 0]) ∧ h = [] := by
 obtain ⟨eG, g⟩ := Kl h
 have hE := Nn t
 have e2 : (Ae t).2 = 0 := by rw [h]
 rw [e2, eG, HN] at hE
 rw [eG] at hf
 obtain ⟨home, hh, hg, hfe⟩ := Qr g.ok hf
 have hL0 := Sb (gnF t e) g.ok home hh hg hfe
 have hL : AC Tryz.prog GP 32 [gnA (gnF t e)] [] fun r h => ∃ v : {p : List Nat × List Nat // YU (gnF t e) p}, r = .ret (.tup [.agg [.d (AT v.1.1), .d (AT v.1.2)], .int 0]) ∧ h = [] := by
  simp only [FX]; exact hL0
 have hlt : ∀ v : {p : List Nat × List Nat // YU (gnF t e) p}, (∀ a ∈ v.1.1, a < e.spots.length) ∧ ∀ a ∈ v.1.2, a < e.spots.length := fun v =>
  ⟨fun a ha => v.2.1.lt a (List.mem_append_left _ ha), fun a ha => v.2.1.lt a (List.mem_append_right _ ha)⟩
 have hes := g.few
 refine Ec (rs := [.cell 2 35, .tmp 3]) Tryz.f16.ntmps Tryz.func16 rfl rfl rfl (by simp [Tryz.ntmps16]) fun W I => ?_
 repeat' (first
  | refine ca HR (hE) ?_
  | refine cag MW (hL) ?_
  | exact True.intro | refine AD ?_ | refine two ?_ ?_ | refine AB fun c_ => ?_
  | (refine imp fun hc => ?_) <;> try exact cx1 hc
  | refine all fun v_ => ?_)
 obtain ⟨bv, rfl⟩ : ∃ x, x = v_ := ⟨v_, rfl⟩
 obtain ⟨bl, rfl⟩ : ∃ x, x = v_ := ⟨v_, rfl⟩
 obtain ⟨v, rfl⟩ : ∃ x, x = v_ := ⟨v_, rfl⟩
 obtain ⟨bg, rfl⟩ : ∃ x, x = v_ := ⟨v_, rfl⟩
 obtain ⟨br, rfl⟩ : ∃ x, x = v_ := ⟨v_, rfl⟩
 obtain ⟨hst, hlo⟩ := hlt v
 obtain ⟨⟨stem, loop⟩, hp⟩ := v
 have hsl := hp.2.1
 have hll := hp.2.2
 dsimp only at hst hlo hsl hll ⊢
 have q1 := Dy e.spots stem
 have q2 := Dy e.spots loop
 refine C4 (E := 3) (sz := 1) AW ?_
 refine AG (X := Nat × Sl) (fun y => [(2, .val (.pointer (some ⟨br, 0, none⟩))), (4, .val (.pointer (some ⟨bg, 0, none⟩))), (6, .val (.pointer (some ⟨bl, 0, none⟩))), (7, .val (.pointer (some ⟨bv, 0, none⟩))), (30, .d (AT stem)), (31, .int stem.length), (32, .int y.1)]) (fun y => [AM y.2.v 3 1 AW ((stS e.spots stem).take y.1), .cells bv 35 [.bool false, .val y.2.v, .val Sl.nil.v], .cells bl 33 [.d (AT stem), .d (AT loop)], .cells bg 62 [.d (AO e.spots), .int (gnF t e).init, .d (As (gnF t e).next), .d (AT (gnF t e).sets), .int (gnF t e).many], .cells br 35 [.bool false, .val (.slice none 0 0), .val (.slice none 0 0)]]) (fun y => y.1 ≤ stem.length) (fun y => stem.length - y.1) (0, Sl.nil) (Nat.zero_le _) (VS.take (by exact AI) ?_) ?_
 · exact leD
 rintro ⟨j, q⟩ hj
 dsimp only at hj ⊢
 by_cases hjl : j < stem.length
 · have hjs := hst stem[j] (List.getElem_mem hjl)
   have et := PZ e.spots stem j hjl hjs
   have hlen : ((stS e.spots stem).take j).length = j := by rw [List.length_take]; omega
   repeat' (first
    | exact True.intro | refine CJ ?_ | refine two ?_ ?_ | refine AB fun c_ => ?_
    | (refine imp fun hc => ?_) <;> try exact cx hc
    | refine all fun v_ => ?_)
   refine ⟨?_⟩
   refine B7 [AM q.v 3 1 AW ((stS e.spots stem).take j)] mixed rfl (by (repeat ((with_reducible apply Hd.cons); (focus rfl))); exact Hd.nil) (by (repeat (with_reducible apply Ax)); exact len_nil) (by decide +kernel) (by exact Ap) ?_
   repeat' (first
    | exact True.intro | refine AD ?_ | refine two ?_ ?_ | refine AB fun c_ => ?_
    | (refine imp fun hc => ?_) <;> try exact cx1 hc
    | refine all fun v_ => ?_)
   refine ⟨(j + 1, v_), by dsimp only; omega, by dsimp only; omega, VS.take (by dsimp only; rw [et]; exact AI) ?_⟩
   exact leD
 obtain rfl : j = stem.length := by omega
 have eall : (stS e.spots stem).take stem.length = stS e.spots stem := List.take_of_length_le (by omega)
 rw [eall]
 repeat' (first
  | exact True.intro | refine AD ?_ | refine two ?_ ?_ | refine AB fun c_ => ?_
  | (refine imp fun hc => ?_) <;> try exact cx1 hc
  | refine all fun v_ => ?_)
 refine C4 (E := 3) (sz := 1) AW ?_
 refine AG (X := Nat × Sl) (fun y => [(2, .val (.pointer (some ⟨br, 0, none⟩))), (4, .val (.pointer (some ⟨bg, 0, none⟩))), (6, .val (.pointer (some ⟨bl, 0, none⟩))), (7, .val (.pointer (some ⟨bv, 0, none⟩))), (51, .d (AT loop)), (52, .int loop.length), (53, .int y.1)]) (fun y => [AM y.2.v 3 1 AW ((stS e.spots loop).take y.1), AM q.v 3 1 AW (stS e.spots stem), .cells bv 35 [.bool false, .val q.v, .val y.2.v], .cells bl 33 [.d (AT stem), .d (AT loop)], .cells bg 62 [.d (AO e.spots), .int (gnF t e).init, .d (As (gnF t e).next), .d (AT (gnF t e).sets), .int (gnF t e).many], .cells br 35 [.bool false, .val (.slice none 0 0), .val (.slice none 0 0)]]) (fun y => y.1 ≤ loop.length) (fun y => loop.length - y.1) (0, Sl.nil) (Nat.zero_le _) (VS.take (by exact AI) ?_) ?_
 · exact leD
 obtain ⟨qs, rfl⟩ : ∃ x, x = q := ⟨q, rfl⟩
 rintro ⟨j, q⟩ hj
 dsimp only at hj ⊢
 by_cases hjl : j < loop.length
 · have hjs := hlo loop[j] (List.getElem_mem hjl)
   have et := PZ e.spots loop j hjl hjs
   have hlen : ((stS e.spots loop).take j).length = j := by rw [List.length_take]; omega
   repeat' (first
    | exact True.intro | refine CJ ?_ | refine two ?_ ?_ | refine AB fun c_ => ?_
    | (refine imp fun hc => ?_) <;> try exact cx hc
    | refine all fun v_ => ?_)
   refine ⟨?_⟩
   refine B7 [AM q.v 3 1 AW ((stS e.spots loop).take j)] mixed rfl (by (repeat ((with_reducible apply Hd.cons); (focus rfl))); exact Hd.nil) (by (repeat (with_reducible apply Ax)); exact len_nil) (by decide +kernel) (by exact Ap) ?_
   repeat' (first
    | exact True.intro | refine AD ?_ | refine two ?_ ?_ | refine AB fun c_ => ?_
    | (refine imp fun hc => ?_) <;> try exact cx1 hc
    | refine all fun v_ => ?_)
   refine ⟨(j + 1, v_), by dsimp only; omega, by dsimp only; omega, VS.take (by dsimp only; rw [et]; exact AI) ?_⟩
   exact leD
 obtain rfl : j = loop.length := by omega
 have eall : (stS e.spots loop).take loop.length = stS e.spots loop := List.take_of_length_le (by omega)
 rw [eall]
 repeat' (first
  | exact True.intro | refine AD ?_ | refine two ?_ ?_ | refine AB fun c_ => ?_
  | (refine imp fun hc => ?_) <;> try exact cx1 hc
  | refine all fun v_ => ?_)
 refine Tl (VS.trans (VS.take (hc := [AM qs.v 3 1 AW (stS e.spots stem), AM q.v 3 1 AW (stS e.spots loop), .cells br 35 [.bool false, .val qs.v, .val q.v]]) (by exact AI) (Env.le_refl _))
  (VS.trans (Gj (h1 := []) (h' := [AM q.v 3 1 AW (stS e.spots loop), .cells br 35 [.bool false, .d (AK (stS e.spots stem)), .val q.v]]) 8 rfl rfl (fun _ => rfl) (by omega) (CvE.refl _ _ _) ?_)
  (Gj (h1 := []) (h' := [.cells br 35 [.bool false, .d (AK (stS e.spots stem)), .d (AK (stS e.spots loop))]]) 8 rfl rfl (fun _ => rfl) (by omega) (CvE.refl _ _ _) ?_))) (xs := [vdA false (stS e.spots stem) (stS e.spots loop), .int 0]) ⟨Dt rfl (by (with_reducible exact ElC.h)) rfl (by exact Az) rfl, FP rfl, trivial⟩ rfl (h' := []) (List.nil_sublist _) ⟨⟨(stem, loop), hp⟩, rfl, rfl⟩
 · exact .keep (.cells (.cons (.same _) (.cons .here (.cons (.same _) .nil))) (.refl _))
 · exact .cells (.cons (.same _) (.cons (.same _) (.cons .here .nil))) (.refl _)
end Go.Proofs.YtibahljljjkceaaGreatDoor
