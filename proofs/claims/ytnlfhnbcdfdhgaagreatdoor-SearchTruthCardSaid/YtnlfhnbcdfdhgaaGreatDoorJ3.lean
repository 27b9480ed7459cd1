/- Own texts. -/
import Derived.Test.YtnlfhnbcdfdhgaaGreatDoorF39
import Derived.Test.YtnlfhnbcdfdhgaaGreatDoorJ2
set_option linter.unusedVariables false
set_option linter.unusedSimpArgs false
set_option maxRecDepth 100000
set_option maxHeartbeats 4000000
namespace Go.Proofs.YtnlfhnbcdfdhgaaGreatDoor
open Go Go.Av Go.Sp
theorem gQ : Cal Tryz.prog 51 := Cal.of Tryz.func51 (by kernel_rfl) (by kernel_rfl)
theorem iV (g : Gr) (h : (C5 g).2 ≠ 0) : ACr Tryz.prog GP 51 [grA g] (.tup [.agg [.d (AK []), .d (AK [])], .int (C5 g).2]) := by
 have E := eI GP g
 generalize C5 g = p at E h ⊢
 obtain ⟨home, e⟩ := p
 dsimp only at E h ⊢
 refine Bm (rs := [.cell 2 66, .tmp 3]) Tryz.f51.ntmps Tryz.func51 rfl rfl rfl (by simp [Tryz.ntmps51]) fun W I => ?_
 repeat' (first
  | refine ca Vl (E) ?_
  | exact True.intro | refine AG ?_ | refine two ?_ ?_ | refine AF fun c_ => ?_
  | (refine imp fun hc => ?_) <;> try exact cx1 hc
  | refine all fun v_ => ?_)
 exact Eo (xs := [.agg [.val (.slice none 0 0), .val (.slice none 0 0)], .int e]) (ys := [.agg [.d (AK []), .d (AK [])], .int e]) vid ⟨Ax rfl (by (with_reducible exact ElC.h)) rfl (by exact Ab) rfl, Az rfl, trivial⟩ ⟨AV.le_agg ⟨AV.le_nil 1 8, AV.le_nil 1 8, trivial⟩, AV.le_refl _, trivial⟩ rfl (h' := []) (List.nil_sublist _) (AB rfl)
def iZ (g : Gn) (p : List Nat × List Nat) : Prop := FitP g p.1 p.2 ∧ p.1.length ≤ 20000 ∧ p.2.length ≤ 200000
theorem iK (g : Gn) (hok : g.ok) (home : Nat) (hh : home < g.spots.length) (hg : M0 g home) (hf : C5 g.gr = ((home : Int), 0)) : AC Tryz.prog GP 51 [gnA g] [] fun r h => ∃ v : {p : List Nat × List Nat // iZ g p}, r = .ret (.tup [.agg [.d (AK (fS v.1.1)), .d (AK (fS v.1.2))], .int 0]) ∧ h = [] := by
 have E := eI GP g.gr
 have E2 := dK GP g.gr
 rw [hf] at E
 rw [Kn hok, ← Sw, ← Ln] at E2
 rw [Sk] at E E2
 dsimp only at E E2
 have hs := hok.size
 have hi0 := hok.init
 have hm := hok.many
 refine Bm (rs := [.cell 2 66, .tmp 3]) Tryz.f51.ntmps Tryz.func51 rfl rfl rfl (by simp [Tryz.ntmps51]) fun W I => ?_
 repeat' (first
  | refine ca Vl (E) ?_
  | refine ca Ks (E2) ?_
  | exact True.intro | refine AG ?_ | refine two ?_ ?_ | refine AF fun c_ => ?_
  | (refine imp fun hc => ?_) <;> try exact cx1 hc
  | refine all fun v_ => ?_)
 obtain ⟨bx, rfl⟩ : ∃ x, x = v_ := ⟨v_, rfl⟩
 obtain ⟨bp, rfl⟩ : ∃ x, x = v_ := ⟨v_, rfl⟩
 obtain ⟨bhz9, rfl⟩ : ∃ x, x = v_ := ⟨v_, rfl⟩
 obtain ⟨b2, rfl⟩ : ∃ x, x = v_ := ⟨v_, rfl⟩
 obtain ⟨bg, rfl⟩ : ∃ x, x = v_ := ⟨v_, rfl⟩
 change J _ _ _ _ [.cells bx 161 [.d (AO g.spots), .int g.init, .d (FX g.next), .d (DF g.sets), .int g.many], .cells bp 49 [.d (DF (EP g))], .cells bhz9 3 [.int home], .cells b2 66 [.val (.slice none 0 0), .val (.slice none 0 0)], .cells bg 51 [.d (AO g.spots), .int g.init, .d (FX g.next), .d (DF g.sets), .int g.many]]
 refine F6 (E := 3) (sz := 1) Aa ?_
 refine AM (X := Nat × Sl) (fun y => [(1, .val (.pointer (some ⟨bg, 0, none⟩))), (2, .val (.pointer (some ⟨b2, 0, none⟩))), (4, .val (.pointer (some ⟨bhz9, 0, none⟩))), (6, .val (.pointer (some ⟨bp, 0, none⟩))), (8, .val (.pointer (some ⟨bx, 0, none⟩))), (9, .val y.2.v), (40, .int g.init), (41, .int y.1)]) (fun y => [AH y.2.v 3 1 Aa (fS (List.range y.1)), .cells bhz9 3 [.int home], .cells bp 49 [.d (DF (EP g))], .cells bg 51 [.d (AO g.spots), .int g.init, .d (FX g.next), .d (DF g.sets), .int g.many], .cells bx 161 [.d (AO g.spots), .int g.init, .d (FX g.next), .d (DF g.sets), .int g.many], .cells b2 66 [.val (.slice none 0 0), .val (.slice none 0 0)]]) (fun y => y.1 ≤ g.init) (fun y => g.init - y.1) (0, Sl.nil) (Nat.zero_le _) (VS.take (by exact AD) ?_) ?_
 · exact leD
 rintro ⟨i, q⟩ hi
 dsimp only at hi ⊢
 have hil : (fS (List.range i)).length = i := by simp
 by_cases hlt : i < g.init
 · have hsu : fS (List.range (i + 1)) = fS (List.range i) ++ [(i : Int)] := by simp [List.range_succ]
   repeat' (first
    | exact True.intro | refine AP ?_ | refine two ?_ ?_
    | (refine imp fun hc => ?_) <;> try exact cx hc
    | refine all fun v_ => ?_)
   refine ⟨(i + 1, v_), by dsimp only; omega, by dsimp only; omega, VS.take (by dsimp only; rw [hsu]; exact AD) ?_⟩
   exact leD
 obtain rfl : i = g.init := by omega
 have hi1 : 0 < g.init := by obtain ⟨j, hj, _⟩ := hg.1; omega
 have F1 := way g hok (List.range g.init) (fun _ => true) (fun k => decide (k = home)) 89 90 #[] #[.pointer (some ⟨bhz9, 0, none⟩)] (.cells bhz9 3 [.int home]) (.cells bp 49 [.d (DF (EP g))]) (.cells bg 51 [.d (AO g.spots), .int g.init, .d (FX g.next), .d (DF g.sets), .int g.many]) (.cells bx 161 [.d (AO g.spots), .int g.init, .d (FX g.next), .d (DF g.sets), .int g.many]) gz iA (fun k _ => las1 k _ _ _ _) (fun k _ => las2 home k bhz9 _ _ _) (by intro e; have := congrArg List.length e; simp at this; omega) List.nodup_range (fun k hk => by have := List.mem_range.1 hk; omega)
 refine Ox (By (t := 9) (eb := 8) rfl rfl (fun x => rfl) (by rw [hil]; omega)) ?_
 repeat' (first
  | ((with_reducible apply jp); (focus ((with_reducible apply gG); (focus rfl))); (focus rfl))
  | exact True.intro | refine AP ?_ | refine two ?_ ?_
  | (refine imp fun hc => ?_) <;> try exact cx hc
  | refine all fun v_ => ?_)
 apply As
 · rfl
 · exact gU
 · exact F1
 · exact AW
 · rfl
 · exact BO
 refine all fun w1 => ?_
 obtain ⟨ws, hw1, hwl1⟩ := w1
 dsimp only
 refine jp (VJ rfl) rfl ?_
 refine LU ?_
 refine DH ?_
 refine L3 (GW (X := Unit) (fun _ => [(1, .val (.pointer (some ⟨bg, 0, none⟩))), (2, .val (.pointer (some ⟨b2, 0, none⟩))), (4, .val (.pointer (some ⟨bhz9, 0, none⟩))), (6, .val (.pointer (some ⟨bp, 0, none⟩))), (8, .val (.pointer (some ⟨bx, 0, none⟩))), (11, .d (AK (fS ws))), (12, .val (.func (.func 91) #[] #[.pointer (some ⟨bp, 0, none⟩), .pointer (some ⟨bhz9, 0, none⟩)]))]) (fun _ => [.cells bhz9 3 [.int home], .cells bp 49 [.d (DF (EP g))], .cells bg 51 [.d (AO g.spots), .int g.init, .d (FX g.next), .d (DF g.sets), .int g.many], .cells bx 161 [.d (AO g.spots), .int g.init, .d (FX g.next), .d (DF g.sets), .int g.many], .cells b2 66 [.val (.slice none 0 0), .val (.slice none 0 0)]]) ?_ fun _ => ?_)
 · repeat' (first
    | ((with_reducible apply jp); (focus ((with_reducible apply gG); (focus rfl))); (focus rfl))
    | exact True.intro | refine AP ?_ | refine two ?_ ?_
    | (refine imp fun hc => ?_) <;> try exact cx hc
    | refine all fun v_ => ?_)
   exact ⟨(), VS.take (by exact AD) (by exact leD)⟩
 refine L3 (Lr ?_)
 refine jp (r := .int home) (Mi rfl rfl (by exact Ab) rfl) rfl ?_
 refine Zs rfl rfl (by (with_reducible exact ElC.h)) rfl ?_
 refine all fun q1 => ?_
 have hsl := hok.sets
 have hsn := MJ g.sets home (by omega)
 repeat' (first
  | exact True.intro | refine AP ?_ | refine two ?_ ?_
  | (refine imp fun hc => ?_) <;> try exact cx hc
  | refine all fun v_ => ?_)
 refine AM (X := Nat × List Nat × Sl × Nat × Nat) (fun y => [(1, .val (.pointer (some ⟨bg, 0, none⟩))), (2, .val (.pointer (some ⟨b2, 0, none⟩))), (4, .val (.pointer (some ⟨bhz9, 0, none⟩))), (6, .val (.pointer (some ⟨bp, 0, none⟩))), (8, .val (.pointer (some ⟨bx, 0, none⟩))), (11, .d (AK (fS ws))), (12, .val (.func (.func 91) #[] #[.pointer (some ⟨bp, 0, none⟩), .pointer (some ⟨bhz9, 0, none⟩)])), (13, .val y.2.2.1.v), (14, .int y.2.2.2.1), (15, .int y.2.2.2.2), (63, .int g.many), (64, .int y.1)]) (fun y => [AH y.2.2.1.v 3 1 Aa (fS y.2.1), .cells bhz9 3 [.int home], .cells bp 49 [.d (DF (EP g))], .cells bg 51 [.d (AO g.spots), .int g.init, .d (FX g.next), .d (DF g.sets), .int g.many], .cells bx 161 [.d (AO g.spots), .int g.init, .d (FX g.next), .d (DF g.sets), .int g.many], .cells b2 66 [.val (.slice none 0 0), .val (.slice none 0 0)]]) (fun y => y.1 ≤ g.many ∧ LasI g home y.1 y.2.1 y.2.2.2.1 ∧ y.2.1.getLast? = some y.2.2.2.2 ∧ y.2.1.length ≤ 1 + 20000 * y.1 ∧ y.2.2.2.1 < 64) (fun y => g.many - y.1) (0, [home], q1, g.sets[home], home) ⟨Nat.zero_le _, hsn ▸ LasI.start hh hg.2, rfl, Nat.le_refl _, ?_⟩ (VS.take (by exact AD) ?_) ?_
 · have h1 := hok.bits home (by omega)
   exact Nat.lt_of_lt_of_le h1 (by have := Nat.pow_le_pow_right (n := 2) (by decide) hm; exact this)
 · exact leD
 rintro ⟨b, l, q2, met, a⟩ ⟨hb, hL, hla, hll, hmet⟩
 dsimp only at hb hL hla hll hmet ⊢
 have hbit : (bits .and .i64 ((met : Int) / 2 ^ (b : Int).toNat) 1 = 1) ↔ met.testBit b = true := by
  have e1 : (b : Int).toNat = b := Int.toNat_natCast b
  have e2 : (met : Int) / 2 ^ b = ((met / 2 ^ b : Nat) : Int) := by simp
  have e3 : met / 2 ^ b ≤ met := Nat.div_le_self _ _
  rw [← gW, e1]
  generalize met / 2 ^ b = z at e2 e3
  rw [and1 (by rw [e2]; omega) (by rw [e2]; omega)]
 by_cases hbm : b < g.many
 · have hal := hL.ins a (List.mem_of_getLast? hla)
   obtain ⟨hal1, hal2⟩ := hal
   repeat' (first
    | exact True.intro | refine AP ?_ | refine two ?_ ?_
    | (refine imp fun hc => ?_) <;> try exact cx hc
    | refine all fun v_ => ?_)
   · refine ⟨(b + 1, l, q2, met, a), ⟨by dsimp only; omega, hL.skip (hbit.1 (by assumption)), hla, by dsimp only; omega, hmet⟩, by dsimp only; omega, VS.take (by exact AD) ?_⟩
     exact leD
   obtain ⟨bb, rfl⟩ : ∃ x, x = v_ := ⟨v_, rfl⟩
   have F2z9 := way g hok [a] (insP g home) (fun k => (ni g.sets k).testBit b) 91 92 #[.pointer (some ⟨bp, 0, none⟩), .pointer (some ⟨bhz9, 0, none⟩)] #[.pointer (some ⟨bg, 0, none⟩), .pointer (some ⟨bb, 0, none⟩)] (.cells bhz9 3 [.int home]) (.cells bp 49 [.d (DF (EP g))]) (.cells bg 51 [.d (AO g.spots), .int g.init, .d (FX g.next), .d (DF g.sets), .int g.many]) (.cells bb 3 [.int b]) fg gx (fun k hk => im g home k hk _ _ _ _) (fun k hk => las4 g hok b k hk (by omega) _ _ _ _) (by simp) (List.nodup_cons.2 ⟨List.not_mem_nil, List.nodup_nil⟩) (fun k hk => by rw [List.mem_singleton.1 hk]; exact hal1)
   apply As
   · rfl
   · exact gU
   · exact F2z9
   · exact AW
   · rfl
   · exact BO
   refine all fun w2 => ?_
   obtain ⟨lw, hw2, hwl2⟩ := w2
   dsimp only
   obtain ⟨v, hv1, hv2⟩ := gO hok hg.2 hal1 hal2 hbm
   have hG := hw2.found hv1 hv2
   obtain ⟨t, rfl⟩ := hG.cons
   clear F2z9 F1
   repeat' (first
    | exact True.intro | refine AP ?_ | refine two ?_ ?_
    | (refine imp fun hc => ?_) <;> try exact cx hc
    | refine all fun v_ => ?_)
   have h64 := (XB hok).2
   refine AM (X := Nat × Nat) (fun y => [(1, .val (.pointer (some ⟨bg, 0, none⟩))), (2, .val (.pointer (some ⟨b2, 0, none⟩))), (4, .val (.pointer (some ⟨bhz9, 0, none⟩))), (6, .val (.pointer (some ⟨bp, 0, none⟩))), (8, .val (.pointer (some ⟨bx, 0, none⟩))), (11, .d (AK (fS ws))), (12, .val (.func (.func 91) #[] #[.pointer (some ⟨bp, 0, none⟩), .pointer (some ⟨bhz9, 0, none⟩)])), (13, .val q2.v), (14, .int y.2), (17, .d (AK (fS (a :: t)))), (63, .int g.many), (64, .int b), (79, .d (DF t)), (80, .int t.length), (81, .int y.1)]) (fun y => [AH q2.v 3 1 Aa (fS l), .cells bhz9 3 [.int home], .cells bp 49 [.d (DF (EP g))], .cells bg 51 [.d (AO g.spots), .int g.init, .d (FX g.next), .d (DF g.sets), .int g.many], .cells bx 161 [.d (AO g.spots), .int g.init, .d (FX g.next), .d (DF g.sets), .int g.many], .cells b2 66 [.val (.slice none 0 0), .val (.slice none 0 0)]]) (fun y => y.1 ≤ t.length ∧ y.2 < 64 ∧ ∀ s, y.2.testBit s = true → met.testBit s = true ∨ ∃ x ∈ t.take y.1, (ni g.sets x).testBit s = true) (fun y => t.length - y.1) (0, met) ⟨Nat.zero_le _, hmet, fun s h => .inl h⟩ (VS.take (by exact AD) ?_) ?_
   · rw [Ln t, show t.length = (fS t).length by simp]; exact leD
   rintro ⟨j, m2⟩ ⟨hj, hm2, hms⟩
   dsimp only at hj hm2 hms ⊢
   have htl : t.length + 1 ≤ g.spots.length := hwl2
   by_cases hjt : j < t.length
   · have htn := hG.lt t[j] (List.mem_cons_of_mem _ (List.getElem_mem hjt))
     have hgs := MJ g.sets t[j] (by omega)
     have hsl2 := Z6 hok t[j]
     have hor : bits .or .i64 (m2 : Int) ((ni g.sets t[j] : Nat) : Int) = ((m2 ||| ni g.sets t[j] : Nat) : Int) := (bits_nat .i64 63 (by decide) Dq m2 (ni g.sets t[j]) (by omega) (by omega)).2
     rw [hgs] at hor
     repeat' (first
      | exact True.intro | refine AP ?_ | refine two ?_ ?_
      | (refine imp fun hc => ?_) <;> try exact cx hc
      | refine all fun v_ => ?_)
     refine ⟨(j + 1, m2 ||| ni g.sets t[j]), ⟨by dsimp only; omega, Nat.or_lt_two_pow (n := 6) hm2 (by omega), fun s h => ?_⟩, by dsimp only; omega, VS.take (by exact AD) ?_⟩
     · dsimp only at h ⊢
       rw [Nat.testBit_or, Bool.or_eq_true] at h
       rw [List.take_succ_eq_append_getElem hjt]
       rcases h with h | h
       · rcases hms s h with h | ⟨x, hx, e⟩
         · exact .inl h
         · exact .inr ⟨x, List.mem_append_left _ hx, e⟩
       · exact .inr ⟨_, List.mem_append_right _ (List.mem_singleton.2 rfl), h⟩
     · dsimp only
       rw [hgs, ← hor]
       exact leD
   obtain rfl : j = t.length := by omega
   rw [List.take_length] at hms
   have hcl : (fS l).length = l.length := by simp
   have hct : (fS t).length = t.length := by simp
   have hlne : 0 < l.length := List.length_pos_iff.2 hL.ne
   repeat' (first
    | exact True.intro | refine AP ?_ | refine two ?_ ?_
    | (refine imp fun hc => ?_) <;> try exact cx hc
    | refine all fun v_ => ?_)
   have ec : fS l ++ List.drop (Int.toNat 1) (fS (a :: t)) = fS (l ++ t) := by simp [fS]
   have ecl : (fS (l ++ t)).length = l.length + t.length := by simp
   rw [ec]
   repeat' (first
    | exact True.intro | refine AP ?_ | refine two ?_ ?_
    | (refine imp fun hc => ?_) <;> try exact cx hc
    | refine all fun v_ => ?_)
   have hne : l ++ t ≠ [] := List.length_pos_iff.1 (by rw [List.length_append]; omega)
   have hz : ∀ h, (fS (l ++ t))[((fS (l ++ t)).length - 1 : Int).toNat]'h = (((l ++ t).getLast hne : Nat) : Int) := fun h => by
    rw [List.getLast_eq_getElem, List.getElem_map]
    congr 2
    rw [ecl, List.length_append]
    omega
   refine ⟨(b + 1, l ++ t, v_, m2, (l ++ t).getLast hne), ⟨by dsimp only; omega, hL.join hla hG hms, List.getLast?_eq_some_getLast hne, by dsimp only; rw [List.length_append]; omega, hm2⟩, by dsimp only; omega, VS.take (by exact AD) ?_⟩
   dsimp only
   rw [← hz (by omega)]
   exact leD
 obtain rfl : b = g.many := by omega
 obtain ⟨hal1, hal2⟩ := hL.ins a (List.mem_of_getLast? hla)
 have hnl := hok.next
 have hnx := g.nx_get a (by omega)
 repeat' (first
  | exact True.intro | refine AP ?_ | refine two ?_ ?_
  | (refine imp fun hc => ?_) <;> try exact cx hc
  | refine all fun v_ => ?_)
 refine AM (X := Nat) (fun j => [(1, .val (.pointer (some ⟨bg, 0, none⟩))), (2, .val (.pointer (some ⟨b2, 0, none⟩))), (4, .val (.pointer (some ⟨bhz9, 0, none⟩))), (6, .val (.pointer (some ⟨bp, 0, none⟩))), (8, .val (.pointer (some ⟨bx, 0, none⟩))), (11, .d (AK (fS ws))), (12, .val (.func (.func 91) #[] #[.pointer (some ⟨bp, 0, none⟩), .pointer (some ⟨bhz9, 0, none⟩)])), (13, .val q2.v), (108, .d (DF g.next[a])), (109, .int g.next[a].length), (110, .int j)]) (fun _ => [AH q2.v 3 1 Aa (fS l), .cells bhz9 3 [.int home], .cells bp 49 [.d (DF (EP g))], .cells bg 51 [.d (AO g.spots), .int g.init, .d (FX g.next), .d (DF g.sets), .int g.many], .cells bx 161 [.d (AO g.spots), .int g.init, .d (FX g.next), .d (DF g.sets), .int g.many], .cells b2 66 [.val (.slice none 0 0), .val (.slice none 0 0)]]) (fun j => j ≤ g.next[a].length ∧ ∀ x ∈ g.next[a].take j, insP g home x = false) (fun j => g.next[a].length - j) 0 ⟨Nat.zero_le _, fun x hx => (by cases hx)⟩ (VS.take (by exact AD) ?_) ?_
 · exact leD
 rintro j ⟨hj, hno⟩
 refine DB (t := 108) rfl fun hlj => ?_
 by_cases hjl : j < g.next[a].length
 · have hka : g.next[a][j] ∈ g.nx a := by rw [hnx]; exact List.getElem_mem hjl
   have hkn := g.nx_lt hok a _ hka
   have hc3 := im g home g.next[a][j] hkn bhz9 bp (.cells bg 51 [.d (AO g.spots), .int g.init, .d (FX g.next), .d (DF g.sets), .int g.many]) (.cells bx 161 [.d (AO g.spots), .int g.init, .d (FX g.next), .d (DF g.sets), .int g.many])
   cases hin : insP g home g.next[a][j] with
   | false =>
     rw [hin] at hc3
     repeat' (first
      | ((with_reducible apply Ev); (focus rfl); (focus rfl); (focus exact fg); (focus exact hc3); (focus exact AW); (focus rfl); (focus exact BO))
      | exact True.intro | refine AP ?_ | refine two ?_ ?_
      | (refine imp fun hc => ?_) <;> try exact cx hc
      | refine all fun v_ => ?_)
     refine ⟨j + 1, ⟨hjl, fun x hx => ?_⟩, by omega, VS.take (by exact AD) ?_⟩
     · rw [List.take_succ_eq_append_getElem hjl] at hx
       rcases List.mem_append.1 hx with hx | hx
       · exact hno x hx
       · rw [List.mem_singleton.1 hx]; exact hin
     · exact leD
   | true =>
     rw [hin] at hc3
     repeat' (first
      | ((with_reducible apply jp); (focus ((with_reducible apply gG); (focus rfl))); (focus rfl))
      | ((with_reducible apply Ev); (focus rfl); (focus rfl); (focus exact fg); (focus exact hc3); (focus exact AW); (focus rfl); (focus exact BO))
      | exact True.intro | refine AP ?_ | refine two ?_ ?_
      | (refine imp fun hc => ?_) <;> try exact cx hc
      | refine all fun v_ => ?_)
     have hkh : ni (EP g) g.next[a][j] = home := of_decide_eq_true hin
     have F3z9 := way g hok [g.next[a][j]] (insP g home) (fun k => decide (k = home)) 91 93 #[.pointer (some ⟨bp, 0, none⟩), .pointer (some ⟨bhz9, 0, none⟩)] #[.pointer (some ⟨bhz9, 0, none⟩)] (.cells bhz9 3 [.int home]) (.cells bp 49 [.d (DF (EP g))]) (.cells bg 51 [.d (AO g.spots), .int g.init, .d (FX g.next), .d (DF g.sets), .int g.many]) (.cells bx 161 [.d (AO g.spots), .int g.init, .d (FX g.next), .d (DF g.sets), .int g.many]) fg iD (fun k hk => im g home k hk _ _ _ _) (fun k _ => las5 home k bhz9 _ _ _) (by simp) (List.nodup_cons.2 ⟨List.not_mem_nil, List.nodup_nil⟩) (fun k hk => by rw [List.mem_singleton.1 hk]; exact hkn)
     apply As
     · rfl
     · exact gU
     · exact F3z9
     · exact AW
     · rfl
     · exact BO
     refine all fun w3 => ?_
     obtain ⟨lw, hw3, hwl3⟩ := w3
     dsimp only
     have hG3 := hw3.found (gI hok hh hg.2 hkn hkh) (decide_eq_true rfl)
     have hG1 := hw1.found (gA hg.1) (decide_eq_true rfl)
     have hlp3 := List.length_pos_iff.2 hG3.ne
     have hlp1 := List.length_pos_iff.2 hG1.ne
     have hc3 : (fS lw).length = lw.length := by simp
     have hc1 : (fS ws).length = ws.length := by simp
     have hcl : (fS l).length = l.length := by simp
     clear F3z9 F1
     repeat' (first
      | exact True.intro | refine AP ?_ | refine two ?_ ?_
      | (refine imp fun hc => ?_) <;> try exact cx hc
      | refine all fun v_ => ?_)
     have eS : List.take (((fS ws).length : Int) - 1).toNat (fS ws) = fS ws.dropLast := by
      rw [List.dropLast_eq_take, hc1, show ((ws.length : Int) - 1).toNat = ws.length - 1 by omega, ← List.map_take]
     have eXz9 : fS l ++ List.take (((fS lw).length : Int) - 1).toNat (fS lw) = fS (l ++ lw.dropLast) := by
      rw [List.dropLast_eq_take, hc3, show ((lw.length : Int) - 1).toNat = lw.length - 1 by omega, ← List.map_take]
      exact List.map_append.symm
     rw [eS, eXz9]
     have hlx : (fS (l ++ lw.dropLast)).length ≤ 200000 := by rw [List.length_map, List.length_append, List.length_dropLast]; omega
     refine HA (VS.trans (VS.take (hc := [AH v_.v 3 1 Aa (fS (l ++ lw.dropLast)), .cells b2 66 [.d (AK (fS ws.dropLast)), .val v_.v]]) (by exact AD) (Env.le_refl _)) (D1 (h1 := []) (h' := [.cells b2 66 [.d (AK (fS ws.dropLast)), .d (AK (fS (l ++ lw.dropLast)))]]) 8 rfl rfl (fun _ => rfl) (by omega) (CvE.refl _ _ _) (CvH.cells (.cons (.same _) (.cons .here .nil)) (.refl _)))) (xs := [.agg [.d (AK (fS ws.dropLast)), .d (AK (fS (l ++ lw.dropLast)))], .int 0]) ⟨Ax rfl (by (with_reducible exact ElC.h)) rfl (by exact Ab) rfl, Az rfl, trivial⟩ rfl (h' := []) (List.nil_sublist _) ?_
     refine ⟨⟨(ws.dropLast, l ++ lw.dropLast), hL.fits hla hka hin hG1 hG3, ?_, ?_⟩, rfl, rfl⟩
     · rw [List.length_dropLast]; omega
     · rw [List.length_map] at hlx; exact hlx
 · exfalso
   obtain ⟨k, hk, hki⟩ := gJ hok hg.2 hal1 hal2
   rw [hnx] at hk
   have e : j = g.next[a].length := by omega
   have := hno k (by rw [e, List.take_length]; exact hk)
   rw [hki] at this; cases this
end Go.Proofs.YtnlfhnbcdfdhgaaGreatDoor
namespace Go.Sp
open Go Go.Av
abbrev vdA (b : Bool) (stem loop : List Int) : AV := .agg [.bool b, .d (AK stem), .d (AK loop)]
def stS (sp : List Fo) (l : List Nat) : List Int := l.map fun k => ((sp[k]?).map Fo.kind).getD 0
theorem gS (sp : List Fo) (l : List Nat) : (stS sp l).length = l.length := by simp [stS]
theorem gY (sp : List Fo) (l : List Nat) (j : Nat) (h : j < l.length) (hl : l[j] < sp.length) : (stS sp l).take (j + 1) = (stS sp l).take j ++ [sp[l[j]].kind] := by
 have h2 : j < (stS sp l).length := by rw [gS]; exact h
 rw [List.take_succ_eq_append_getElem h2]
 simp [stS, List.getElem?_eq_getElem hl]
theorem gh {t : Tk} {e : Exp} (h : An t = (some e, 0)) : exG t = (gnF t e).gr ∧ Grown t e := by
 have g := HO h
 refine ⟨?_, g⟩
 rw [g.gr]; unfold exG grF; rw [h]
theorem iC {g : Gn} (hok : g.ok) (h : (C5 g.gr).2 = 0) : ∃ home : Nat, home < g.spots.length ∧ M0 g home ∧ C5 g.gr = ((home : Int), 0) := by
 rw [My hok] at h ⊢
 cases hf : (List.range g.spots.length).find? fun i => decide (M0 g i) with
 | none => rw [Np, hf] at h; cases h
 | some i =>
   have hi := List.mem_range.1 (List.mem_of_find?_eq_some hf)
   have hg : M0 g i := by have := List.find?_some hf; exact of_decide_eq_true this
   exact ⟨i, hi, hg, by rw [Np, hf]⟩
end Go.Sp
namespace Go.Proofs.YtnlfhnbcdfdhgaaGreatDoor
open Go Go.Av Go.Sp
theorem hU : Cal Tryz.prog 24 := Cal.of Tryz.func24 (by kernel_rfl) (by kernel_rfl)
theorem gX (t : Tk) (h : (An t).2 = 0) (hf : (C5 (exG t)).2 ≠ 0) : ACr Tryz.prog GP 24 [tkA t] (.tup [vdA true [] [], .int 0]) := by
 have hE := GK t
 have hL := iV (exG t) hf
 rw [h] at hE
 generalize C5 (exG t) = p at hf hL
 obtain ⟨home, e⟩ := p
 dsimp only at hf hL
 refine Bm (rs := [.cell 2 68, .tmp 3]) Tryz.f24.ntmps Tryz.func24 rfl rfl rfl (by simp [Tryz.ntmps24]) fun W I => ?_
 repeat' (first
  | refine ca Ci (hE) ?_
  | refine ca gQ (hL) ?_
  | exact True.intro | refine AG ?_ | refine two ?_ ?_ | refine AF fun c_ => ?_
  | (refine imp fun hc => ?_) <;> try exact cx1 hc
  | refine all fun v_ => ?_)
 exact Eo (xs := [.agg [.bool true, .val (.slice none 0 0), .val (.slice none 0 0)], .int 0]) (ys := [vdA true [] [], .int 0]) vid ⟨Ax rfl (by (with_reducible exact ElC.h)) rfl (by exact Ab) rfl, Az rfl, trivial⟩ ⟨AV.le_agg ⟨AV.le_refl _, AV.le_nil 1 8, AV.le_nil 1 8, trivial⟩, AV.le_refl _, trivial⟩ rfl (h' := []) (List.nil_sublist _) (AB rfl)
theorem iI (t : Tk) (e : Exp) (h : An t = (some e, 0)) (hf : (C5 (exG t)).2 = 0) : AC Tryz.prog GP 24 [tkA t] [] fun r h => ∃ v : {p : List Nat × List Nat // iZ (gnF t e) p}, r = .ret (.tup [vdA false (stS e.spots v.1.1) (stS e.spots v.1.2), .int 0]) ∧ h = [] := by
 obtain ⟨eG, g⟩ := gh h
 have hE := GK t
 have e2 : (An t).2 = 0 := by rw [h]
 rw [e2, eG, Sk] at hE
 rw [eG] at hf
 obtain ⟨home, hh, hg, hfe⟩ := iC g.ok hf
 have hL0 := iK (gnF t e) g.ok home hh hg hfe
 have hL : AC Tryz.prog GP 51 [gnA (gnF t e)] [] fun r h => ∃ v : {p : List Nat × List Nat // iZ (gnF t e) p}, r = .ret (.tup [.agg [.d (DF v.1.1), .d (DF v.1.2)], .int 0]) ∧ h = [] := by
  simp only [Ln]; exact hL0
 have hlt : ∀ v : {p : List Nat × List Nat // iZ (gnF t e) p}, (∀ a ∈ v.1.1, a < e.spots.length) ∧ ∀ a ∈ v.1.2, a < e.spots.length := fun v =>
  ⟨fun a ha => v.2.1.lt a (List.mem_append_left _ ha), fun a ha => v.2.1.lt a (List.mem_append_right _ ha)⟩
 have hes := g.few
 refine Bm (rs := [.cell 2 68, .tmp 3]) Tryz.f24.ntmps Tryz.func24 rfl rfl rfl (by simp [Tryz.ntmps24]) fun W I => ?_
 repeat' (first
  | refine ca Ci (hE) ?_
  | refine cag gQ (hL) ?_
  | exact True.intro | refine AG ?_ | refine two ?_ ?_ | refine AF fun c_ => ?_
  | (refine imp fun hc => ?_) <;> try exact cx1 hc
  | refine all fun v_ => ?_)
 obtain ⟨bv, rfl⟩ : ∃ x, x = v_ := ⟨v_, rfl⟩
 obtain ⟨bl, rfl⟩ : ∃ x, x = v_ := ⟨v_, rfl⟩
 obtain ⟨v, rfl⟩ : ∃ x, x = v_ := ⟨v_, rfl⟩
 obtain ⟨bg, rfl⟩ : ∃ x, x = v_ := ⟨v_, rfl⟩
 obtain ⟨br, rfl⟩ : ∃ x, x = v_ := ⟨v_, rfl⟩
 obtain ⟨hst, hlo⟩ := hlt v
 obtain ⟨⟨stem, loop⟩, hp⟩ := v
 have hsl := hp.2.1
 have hll := hp.2.2
 dsimp only at hst hlo hsl hll ⊢
 have q1 := gS e.spots stem
 have q2 := gS e.spots loop
 refine F6 (E := 3) (sz := 1) Aa ?_
 refine AM (X := Nat × Sl) (fun y => [(2, .val (.pointer (some ⟨br, 0, none⟩))), (4, .val (.pointer (some ⟨bg, 0, none⟩))), (6, .val (.pointer (some ⟨bl, 0, none⟩))), (7, .val (.pointer (some ⟨bv, 0, none⟩))), (30, .d (DF stem)), (31, .int stem.length), (32, .int y.1)]) (fun y => [AH y.2.v 3 1 Aa ((stS e.spots stem).take y.1), .cells bv 68 [.bool false, .val y.2.v, .val Sl.nil.v], .cells bl 66 [.d (DF stem), .d (DF loop)], .cells bg 51 [.d (AO e.spots), .int (gnF t e).init, .d (FX (gnF t e).next), .d (DF (gnF t e).sets), .int (gnF t e).many], .cells br 68 [.bool false, .val (.slice none 0 0), .val (.slice none 0 0)]]) (fun y => y.1 ≤ stem.length) (fun y => stem.length - y.1) (0, Sl.nil) (Nat.zero_le _) (VS.take (by exact AD) ?_) ?_
 · exact leD
 rintro ⟨j, q⟩ hj
 dsimp only at hj ⊢
 by_cases hjl : j < stem.length
 · have hjs := hst stem[j] (List.getElem_mem hjl)
   have et := gY e.spots stem j hjl hjs
   have hlen : ((stS e.spots stem).take j).length = j := by rw [List.length_take]; omega
   repeat' (first
    | exact True.intro | refine Hz ?_ | refine two ?_ ?_ | refine AF fun c_ => ?_
    | (refine imp fun hc => ?_) <;> try exact cx hc
    | refine all fun v_ => ?_)
   refine ⟨?_⟩
   refine Bn [AH q.v 3 1 Aa ((stS e.spots stem).take j)] mixed rfl (by (repeat ((with_reducible apply Hd.cons); (focus rfl))); exact Hd.nil) (by (repeat (with_reducible apply AU)); exact len_nil) (by decide +kernel) (by exact AW) ?_
   repeat' (first
    | exact True.intro | refine AG ?_ | refine two ?_ ?_ | refine AF fun c_ => ?_
    | (refine imp fun hc => ?_) <;> try exact cx1 hc
    | refine all fun v_ => ?_)
   refine ⟨(j + 1, v_), by dsimp only; omega, by dsimp only; omega, VS.take (by dsimp only; rw [et]; exact AD) ?_⟩
   exact leD
 obtain rfl : j = stem.length := by omega
 have eall : (stS e.spots stem).take stem.length = stS e.spots stem := List.take_of_length_le (by omega)
 rw [eall]
 repeat' (first
  | exact True.intro | refine AG ?_ | refine two ?_ ?_ | refine AF fun c_ => ?_
  | (refine imp fun hc => ?_) <;> try exact cx1 hc
  | refine all fun v_ => ?_)
 refine F6 (E := 3) (sz := 1) Aa ?_
 refine AM (X := Nat × Sl) (fun y => [(2, .val (.pointer (some ⟨br, 0, none⟩))), (4, .val (.pointer (some ⟨bg, 0, none⟩))), (6, .val (.pointer (some ⟨bl, 0, none⟩))), (7, .val (.pointer (some ⟨bv, 0, none⟩))), (51, .d (DF loop)), (52, .int loop.length), (53, .int y.1)]) (fun y => [AH y.2.v 3 1 Aa ((stS e.spots loop).take y.1), AH q.v 3 1 Aa (stS e.spots stem), .cells bv 68 [.bool false, .val q.v, .val y.2.v], .cells bl 66 [.d (DF stem), .d (DF loop)], .cells bg 51 [.d (AO e.spots), .int (gnF t e).init, .d (FX (gnF t e).next), .d (DF (gnF t e).sets), .int (gnF t e).many], .cells br 68 [.bool false, .val (.slice none 0 0), .val (.slice none 0 0)]]) (fun y => y.1 ≤ loop.length) (fun y => loop.length - y.1) (0, Sl.nil) (Nat.zero_le _) (VS.take (by exact AD) ?_) ?_
 · exact leD
 obtain ⟨qs, rfl⟩ : ∃ x, x = q := ⟨q, rfl⟩
 rintro ⟨j, q⟩ hj
 dsimp only at hj ⊢
 by_cases hjl : j < loop.length
 · have hjs := hlo loop[j] (List.getElem_mem hjl)
   have et := gY e.spots loop j hjl hjs
   have hlen : ((stS e.spots loop).take j).length = j := by rw [List.length_take]; omega
   repeat' (first
    | exact True.intro | refine Hz ?_ | refine two ?_ ?_ | refine AF fun c_ => ?_
    | (refine imp fun hc => ?_) <;> try exact cx hc
    | refine all fun v_ => ?_)
   refine ⟨?_⟩
   refine Bn [AH q.v 3 1 Aa ((stS e.spots loop).take j)] mixed rfl (by (repeat ((with_reducible apply Hd.cons); (focus rfl))); exact Hd.nil) (by (repeat (with_reducible apply AU)); exact len_nil) (by decide +kernel) (by exact AW) ?_
   repeat' (first
    | exact True.intro | refine AG ?_ | refine two ?_ ?_ | refine AF fun c_ => ?_
    | (refine imp fun hc => ?_) <;> try exact cx1 hc
    | refine all fun v_ => ?_)
   refine ⟨(j + 1, v_), by dsimp only; omega, by dsimp only; omega, VS.take (by dsimp only; rw [et]; exact AD) ?_⟩
   exact leD
 obtain rfl : j = loop.length := by omega
 have eall : (stS e.spots loop).take loop.length = stS e.spots loop := List.take_of_length_le (by omega)
 rw [eall]
 repeat' (first
  | exact True.intro | refine AG ?_ | refine two ?_ ?_ | refine AF fun c_ => ?_
  | (refine imp fun hc => ?_) <;> try exact cx1 hc
  | refine all fun v_ => ?_)
 refine HA (VS.trans (VS.take (hc := [AH qs.v 3 1 Aa (stS e.spots stem), AH q.v 3 1 Aa (stS e.spots loop), .cells br 68 [.bool false, .val qs.v, .val q.v]]) (by exact AD) (Env.le_refl _))
  (VS.trans (D1 (h1 := []) (h' := [AH q.v 3 1 Aa (stS e.spots loop), .cells br 68 [.bool false, .d (AK (stS e.spots stem)), .val q.v]]) 8 rfl rfl (fun _ => rfl) (by omega) (CvE.refl _ _ _) ?_)
  (D1 (h1 := []) (h' := [.cells br 68 [.bool false, .d (AK (stS e.spots stem)), .d (AK (stS e.spots loop))]]) 8 rfl rfl (fun _ => rfl) (by omega) (CvE.refl _ _ _) ?_))) (xs := [vdA false (stS e.spots stem) (stS e.spots loop), .int 0]) ⟨Ax rfl (by (with_reducible exact ElC.h)) rfl (by exact Ab) rfl, Az rfl, trivial⟩ rfl (h' := []) (List.nil_sublist _) ⟨⟨(stem, loop), hp⟩, rfl, rfl⟩
 · exact .keep (.cells (.cons (.same _) (.cons .here (.cons (.same _) .nil))) (.refl _))
 · exact .cells (.cons (.same _) (.cons (.same _) (.cons .here .nil))) (.refl _)
end Go.Proofs.YtnlfhnbcdfdhgaaGreatDoor
namespace Go.Sp
open Go Go.Av
noncomputable def hD (t : Tk) : Bool := @decide (fm t) (Classical.propDecidable _)
theorem gB {t : Tk} : hD t = true ↔ fm t := by
 unfold hD
 exact @decide_eq_true_iff _ (Classical.propDecidable _)
theorem fk {t : Tk} {e : Exp} (h : An t = (some e, 0)) : (C5 (exG t)).2 ≠ 0 ↔ fm t := by
 obtain ⟨h1, g⟩ := gh h
 rw [h1, g.gr]
 exact g.holds
theorem iu {t : Tk} (h : fm t) : hD t = true := gB.2 h
theorem ir {t : Tk} (h : ¬ fm t) : hD t = false := by
 cases e : hD t with
 | false => rfl
 | true => exact absurd (gB.1 e) h
end Go.Sp
namespace Go.Proofs.YtnlfhnbcdfdhgaaGreatDoor
open Go Go.Av Go.Sp
theorem VerK (d : De) {f : List Fo} (hf : FoG f) : AC Tryz.prog GP 24 [tkA (DP d f)] [] fun r h => ∃ v : List Int × List Int, r = .ret (.tup [vdA (hD (DP d f)) v.1 v.2, .int 0]) ∧ h = [] := by
 obtain ⟨e, he⟩ := Ho d hf
 have hx : (An (DP d f)).2 = 0 := by rw [he]
 by_cases h : fm (DP d f)
 · have hA := gX (DP d f) hx ((fk he).2 h)
   rw [iu h]
   exact hA.mono fun r hh hq => ⟨([], []), hq.1, hq.2⟩
 · have hA := iI (DP d f) e he (Decidable.not_not.1 fun c => h ((fk he).1 c))
   rw [ir h]
   exact hA.mono fun r hh hq => by
    obtain ⟨v, h1, h2⟩ := hq
    exact ⟨(stS e.spots v.1.1, stS e.spots v.1.2), h1, h2⟩
end Go.Proofs.YtnlfhnbcdfdhgaaGreatDoor
namespace Go.Sp
open Go Go.Av
theorem il {a b : List Fo} (ha : ∀ m ∈ a, okM m) (hb : ∀ m ∈ b, okM m) : ∀ m ∈ a ++ b, okM m := fun m h => (List.mem_append.1 h).elim (ha m) (hb m)
end Go.Sp
