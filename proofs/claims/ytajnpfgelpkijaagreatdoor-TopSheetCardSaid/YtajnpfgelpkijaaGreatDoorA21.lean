/- A bundle of this claim's own texts: R3 R9. -/
import Derived.Test.YtajnpfgelpkijaaGreatDoorA7
import Derived.Test.YtajnpfgelpkijaaGreatDoorA12
import Derived.Test.YtajnpfgelpkijaaGreatDoorA17
import Derived.Test.YtajnpfgelpkijaaGreatDoorA18
import Derived.Test.YtajnpfgelpkijaaGreatDoorA19
set_option linter.unusedVariables false
set_option linter.unusedSimpArgs false
set_option maxRecDepth 100000
set_option maxHeartbeats 4000000
namespace Go.Proofs.YtajnpfgelpkijaaGreatDoor
open Go Go.Av Go.Sp
theorem Ds : Cal Tryz.prog 31 := Cal.of Tryz.func31 (by kernel_rfl) (by kernel_rfl)
theorem Bg (G : List (Nat × List D)) (b : Nat) (q : Sl) (xs l : List UInt8) (hb : xs.length + l.length ≤ 140737488355328) : AC Tryz.prog G 28 [.val (Cj b), .val (.string (tx l))] [.cells b 86 [.val (Cj b), .val q.v], AF q.v 5 1 Bb xs] fun e h => ∃ q' : Sl, e = .ret (.tup [.int l.length, .val .nilIface]) ∧ h = [.cells b 86 [.val (Cj b), .val q'.v], AF q'.v 5 1 Bb (xs ++ l)] := D7 G b true q xs l hb
theorem Sk (G : List (Nat × List D)) (b : Nat) (q : Sl) (xs : List UInt8) (c : UInt8) (hb : xs.length ≤ 140737488355327) : AC Tryz.prog G 30 [.val (Cj b), AV.byte c] [.cells b 86 [.val (Cj b), .val q.v], AF q.v 5 1 Bb xs] fun e h => ∃ q' : Sl, e = .ret (.val .nilIface) ∧ h = [.cells b 86 [.val (Cj b), .val q'.v], AF q'.v 5 1 Bb (xs ++ [c])] := Fp G b true q xs c hb
theorem aV (G : List (Nat × List D)) (b : Nat) (q : Sl) (xs : List UInt8) (h0 : 0 < xs.length) (hb : xs.length ≤ 140737488355328) : AC Tryz.prog G 32 [.val (Cj b)] [.cells b 86 [.val (Cj b), .val q.v], AF q.v 5 1 Bb xs] fun e h => ∃ _ : Unit, e = .ret (.val (.string (tx xs))) ∧ h = [] := String G b true q xs h0 hb
theorem Nh {k : Int} (h0 : 0 ≤ k) (h1 : k ≤ 18) : Jp[0 + k.toNat * 1]? = some (.s (tx (B7 k))) := by
 have : k = 0 ∨ k = 1 ∨ k = 2 ∨ k = 3 ∨ k = 4 ∨ k = 5 ∨ k = 6 ∨ k = 7 ∨ k = 8 ∨ k = 9 ∨ k = 10 ∨ k = 11 ∨ k = 12 ∨ k = 13 ∨ k = 14 ∨ k = 15 ∨ k = 16 ∨ k = 17 ∨ k = 18 := by omega
 rcases this with h | h | h | h | h | h | h | h | h | h | h | h | h | h | h | h | h | h | h <;> subst h <;> rfl
theorem words (m : Md) (l : List Fo) (np : Int) (hn : ∀ v ∈ m.vars, Bl v.name) (h : ∀ o ∈ l, OpP m.vars.length np o) (hp : np ≤ 6) (h60 : l.length ≤ 60) (h00 : 0 < l.length) : ACr Tryz.prog GP 31 [mdA m, .d (AN l)] (.val (.string (tx (Bt m.vars l ++ [10])))) := by
 refine AK (ts := [4]) Tryz.f31.ntmps Tryz.func31 rfl rfl rfl (by simp [Tryz.ntmps31]) fun W I => ?_
 refine EC (t := 1) rfl fun hfact => ?_
 refine FQ (E := 5) (sz := 1) Bb ?_
 repeat' (first
  | refine ca cal_opWord (opWord G m l[i] np hn (h _ (List.getElem_mem hi)) hp) ?_
  | exact True.intro | refine AM ?_ | refine two ?_ ?_
  | (refine imp fun hc => ?_) <;> try exact cx hc
  | refine all fun v_ => ?_)
 obtain ⟨b, rfl⟩ : ∃ x, x = v_ := ⟨v_, rfl⟩
 obtain ⟨bm, rfl⟩ : ∃ x, x = v_ := ⟨v_, rfl⟩
 refine AL (X := Nat × Bool × Sl) (fun y => [(2, .val (.pointer (some ⟨bm, 0, none⟩))), (5, .val (Cj b)), (8, .d (AN l)), (9, .int l.length), (10, .int y.1)]) (fun y => [.cells b 86 [.val (Qq b y.2.1), .val y.2.2.v], AF y.2.2.v 5 1 Bb (Bt m.vars (l.take y.1)), .cells bm 25 [.d (Ba m.vars), .d (BH m.rules)]]) (fun y => y.1 ≤ l.length ∧ (y.2.1 = true ∨ y.1 = 0)) (fun y => l.length - y.1) (0, false, Sl.nil) ⟨Nat.zero_le _, .inr rfl⟩ (VS.take (by exact AB) ?_) ?_
 · exact leD
 rintro ⟨i, u, q⟩ ⟨hi0, hu⟩
 dsimp only at hi0 hu ⊢
 by_cases hi : i < l.length
 · have e := YR m.vars l i hi
   have hl := Cs hn hp (l.take i) fun o ho => h o (List.mem_of_mem_take ho)
   have hl2 : (l.take i).length = i := by rw [List.length_take]; omega
   have hw := QI hn (h _ (List.getElem_mem hi)) hp
   have ho := h _ (List.getElem_mem hi)
   rw [hl2] at hl
   generalize Bt m.vars (l.take i) = s at e hl ⊢
   have e' : Bt m.vars (l.take (i + 1)) = (s ++ [32]) ++ Bx m.vars l[i] := by rw [e]; simp
   clear e
   have hb1 : s.length ≤ 140737488355327 := by omega
   have hb2 : (s ++ [32]).length + (Bx m.vars l[i]).length ≤ 140737488355328 := by rw [List.length_append]; simp; omega
   have ho := h _ (List.getElem_mem hi)
   have a1 := ho.lo
   have a2 := ho.hi
   unfold Bx at hw hb2 e'
   by_cases h1 : l[i].kind = 1
   · have hv := ho.num h1
     have hv1 : -9223372036854775808 ≤ l[i].val := by omega
     have hv2 : l[i].val ≤ 9223372036854775807 := by omega
     rw [if_pos h1] at hw hb2 e'
     repeat' (first
      | refine cag C6 (Fp GP b u q s 32 hb1) ?_
      | refine cag Am (Bg GP b v_ (s ++ [32]) (Lib.itoa l[i].val) hb2) ?_
      | refine ca Gz (Ze l[i].val hv1 hv2) ?_
      | exact True.intro | refine AM ?_ | refine two ?_ ?_
      | (refine imp fun hc => ?_) <;> try exact cx hc
      | refine all fun v_ => ?_)
     refine ⟨(i + 1, true, v_), ⟨by dsimp only; omega, .inl rfl⟩, by dsimp only; omega, VS.take (by dsimp only; rw [e']; exact AB) ?_⟩
     exact leD
   rw [if_neg h1] at hw hb2 e'
   by_cases h2 : l[i].kind = 2
   · have hv := ho.var h2
     have hlt : l[i].val.toNat < m.vars.length := by omega
     rw [if_pos h2, List.getElem?_eq_getElem hlt] at hw hb2 e'
     repeat' (first
      | refine cag C6 (Fp GP b u q s 32 hb1) ?_
      | refine cag Am (Bg GP b v_ (s ++ [32]) m.vars[l[i].val.toNat].name.data.toList hb2) ?_
      | exact True.intro | refine AM ?_ | refine two ?_ ?_
      | (refine imp fun hc => ?_) <;> try exact cx hc
      | refine all fun v_ => ?_)
     refine ⟨(i + 1, true, v_), ⟨by dsimp only; omega, .inl rfl⟩, by dsimp only; omega, VS.take (by dsimp only; rw [e']; exact AB) ?_⟩
     exact leD
   rw [if_neg h2] at hw hb2 e'
   by_cases h13 : l[i].kind = 13
   · have hv := ho.prop h13
     have hv1 : -9223372036854775808 ≤ l[i].val := by omega
     have hv2 : l[i].val ≤ 9223372036854775807 := by omega
     rw [if_pos h13] at hw hb2 e'
     rw [show (80 :: Lib.itoa l[i].val : List UInt8) = [80] ++ Lib.itoa l[i].val from rfl] at hw hb2 e'
     have hw2 : (Lib.itoa l[i].val).length ≤ 12 := by rw [List.length_append] at hw; omega
     repeat' (first
      | refine cag C6 (Fp GP b u q s 32 hb1) ?_
      | refine cag Am (Bg GP b v_ (s ++ [32]) ([80] ++ Lib.itoa l[i].val) hb2) ?_
      | refine ca Gz (Ze l[i].val hv1 hv2) ?_
      | exact True.intro | refine AM ?_ | refine two ?_ ?_
      | (refine imp fun hc => ?_) <;> try exact cx hc
      | refine all fun v_ => ?_)
     refine ⟨(i + 1, true, v_), ⟨by dsimp only; omega, .inl rfl⟩, by dsimp only; omega, VS.take (by dsimp only; rw [e']; exact AB) ?_⟩
     exact leD
   rw [if_neg h13] at hw hb2 e'
   have hmk := Nh (k := l[i].kind) (by omega) (by omega)
   repeat' (first
    | refine cag C6 (Fp GP b u q s 32 hb1) ?_
    | refine cag Am (Bg GP b v_ (s ++ [32]) (B7 l[i].kind) hb2) ?_
    | ((with_reducible apply jp); (focus ((with_reducible apply (O8 (c := .s (tx (B7 l[i].kind))))); rfl; rfl; exact Fa; exact hmk)); (focus rfl))
    | exact True.intro | refine AM ?_ | refine two ?_ ?_
    | (refine imp fun hc => ?_) <;> try exact cx hc
    | refine all fun v_ => ?_)
   refine ⟨(i + 1, true, v_), ⟨by dsimp only; omega, .inl rfl⟩, by dsimp only; omega, VS.take (by dsimp only; rw [e']; exact AB) ?_⟩
   exact leD
 obtain rfl : i = l.length := by omega
 rw [List.take_length]
 have hl := Cs hn hp l h
 have hpos : 0 < (Bt m.vars l).length := by
  unfold Bt
  cases l with
  | nil => cases h00
  | cons o l => simp
 generalize Bt m.vars l = s at hl hpos ⊢
 have hb3 : s.length ≤ 140737488355328 := by omega
 repeat' (first
  | refine cag Ee (String GP b u q s hpos hb3) ?_
  | exact True.intro | refine AM ?_ | refine two ?_ ?_
  | (refine imp fun hc => ?_) <;> try exact cx hc
  | refine all fun v_ => ?_)
 refine AO (VS.drop (List.nil_sublist _)) ?_
 ((with_reducible apply rq1); rfl; rfl)
 exact AD rfl
abbrev lnC (b : Nat) (s : List UInt8) : Ent := .cells b 9 [.val (.string (tx s))]
abbrev lnF (b : Nat) : Value := .func (.func 36) #[] #[.pointer (some ⟨b, 0, none⟩)]
theorem UZ (s : List UInt8) : AC Tryz.prog GP 12 [.val (.string (tx s))] [] fun e h => ∃ b : Nat, e = .ret (.val (lnF b)) ∧ h = [lnC b s] := by
 refine Dd (ts := [2]) Tryz.f12.ntmps Tryz.func12 rfl rfl rfl (by simp [Tryz.ntmps12]) fun W I => ?_
 repeat' (first
  | ((with_reducible apply jp); (focus ((with_reducible apply JC); rfl)); (focus rfl))
  | ((with_reducible apply fv); (focus rfl); (focus rfl); (focus rfl))
  | exact True.intro | refine AM ?_ | refine two ?_ ?_
  | (refine imp fun hc => ?_) <;> try exact cx hc
  | refine all fun v_ => ?_)
 exact ⟨v_, rfl, rfl⟩
theorem cN (W0 : World) (I0 : Nat → Prop) (E : List Nat) (b : Nat) (s : List UInt8) (l : Nat) (F : List (List UInt8) → H → Prop) (hs : s.length ≤ 100000)
 (hy : ∀ pre x rest h, pre ++ x :: BK rest = BK s → F pre h → Oa Tryz.prog ⟨W0, I0, E, GP⟩ l (.string (tx x)) (lnC b rest :: h) fun h2 => ∃ h', h2 = lnC b rest :: h' ∧ F (pre ++ [x]) h') (I : Nat → Prop) (W : World) (h : H) (hF : F [] h) (ok : Ok ⟨W0, I0, E, GP⟩ I (lnC b s :: h) W) :
 Calls Tryz.prog 36 (#[.func (.yield l) #[] #[]] ++ #[.pointer (some ⟨b, 0, none⟩)]) W fun e W' => (∃ v, e = .returned v) ∧ ∃ I' r h', F (BK s) h' ∧ Ok ⟨W0, I0, E, GP⟩ I' (lnC b r :: h') W' := by
 refine (dW (Q := fun e h => ∃ r h', e = .ret (.tup []) ∧ h = lnC b r :: h' ∧ F (BK s) h') (args := [.val (.func (.yield l) #[] #[]), .val (.pointer (some ⟨b, 0, none⟩))]) (vs := [.func (.yield l) #[] #[], .pointer (some ⟨b, 0, none⟩)]) Tryz.f36.ntmps Tryz.func36 rfl rfl rfl (by simp [Tryz.ntmps36]) ok ⟨rfl, rfl, trivial⟩ ?_).mono ?_
 case refine_2 =>
  rintro e w' ⟨r, h', I', ⟨t, h2, rfl, rfl, hF2⟩, k1, k2⟩
  cases e with
  | returned v => exact ⟨⟨v, rfl⟩, I', t, h2, hF2, k1⟩
  | panicked _ => exact k2.elim
  | _ => exact k2.elim
 refine I6 ?_
 refine AL (X := List (List UInt8) × List UInt8 × H) (fun _ => [(0, .val (.func (.yield l) #[] #[])), (1, .val (.pointer (some ⟨b, 0, none⟩)))]) (fun y => lnC b y.2.1 :: y.2.2) (fun y => (y.1 ++ BK y.2.1 = BK s ∧ F y.1 y.2.2) ∧ y.2.1.length ≤ s.length) (fun y => y.2.1.length) ([], s, h) ⟨⟨rfl, hF⟩, Nat.le_refl _⟩ (VS.of_le ?_) ?_
 · exact leD
 rintro ⟨pre, rest, hh⟩ ⟨⟨hi, hl⟩, hle⟩
 dsimp only at hi hl hle ⊢
 by_cases h0 : rest = []
 · subst h0
   rw [Eo, List.append_nil] at hi
   repeat' (first
    | ((with_reducible apply jp); (focus (first | ((with_reducible apply EJ); rfl; rfl) | ((with_reducible apply pu_eqT); rfl; rfl) | ((with_reducible apply pu_neT); rfl; rfl) | ((with_reducible apply pu_atT); rfl; rfl; rfl; omega))); (focus rfl))
    | exact True.intro | refine AM ?_ | refine two ?_ ?_
    | (refine imp fun hc => ?_) <;> try exact cx hc
    | refine all fun v_ => ?_)
   exact ⟨[], hh, rfl, rfl, by rw [← hi]; exact hl⟩
 have hp : 0 < rest.length := List.length_pos_iff.2 h0
 have hcut : ∃ x r, BK rest = x :: BK r ∧ r.length < rest.length ∧ ((0 ≤ Lib.indexByte rest 10 ∧ (Lib.indexByte rest 10).toNat < rest.length ∧ x = rest.take ((Lib.indexByte rest 10).toNat + 1) ∧ r = rest.drop ((Lib.indexByte rest 10).toNat + 1)) ∨ (Lib.indexByte rest 10 < 0 ∧ x = rest ∧ r = [])) := by
  rcases Nj h0 with ⟨c1, c2, c3⟩ | ⟨c1, c3⟩
  · exact ⟨_, _, c3, by rw [List.length_drop]; omega, .inl ⟨c1, c2, rfl, rfl⟩⟩
  · exact ⟨_, _, c3, by simpa using hp, .inr ⟨c1, rfl, rfl⟩⟩
 obtain ⟨x, r, hx, hlt, hcases⟩ := hcut
 have hI := VY rest
 refine FF (IN (X := Unit) (fun _ => [(0, .val (.func (.yield l) #[] #[])), (1, .val (.pointer (some ⟨b, 0, none⟩)))]) (fun _ => lnC b rest :: hh) ?_ fun _ => ?_)
 · repeat' (first
    | ((with_reducible apply jp); (focus (first | ((with_reducible apply EJ); rfl; rfl) | ((with_reducible apply pu_eqT); rfl; rfl) | ((with_reducible apply pu_neT); rfl; rfl) | ((with_reducible apply pu_atT); rfl; rfl; rfl; omega))); (focus rfl))
    | exact True.intro | refine AM ?_ | refine two ?_ ?_
    | (refine imp fun hc => ?_) <;> try exact cx hc
    | refine all fun v_ => ?_)
   refine ⟨(), VS.of_le ?_⟩
   exact leD
 refine I6 (FF (IN (X := Unit) (fun _ => [(0, .val (.func (.yield l) #[] #[])), (1, .val (.pointer (some ⟨b, 0, none⟩)))]) (fun _ => lnC b rest :: hh) ?_ fun _ => ?_))
 · repeat' (first
    | ((with_reducible apply jp); (focus (first | ((with_reducible apply EJ); rfl; rfl) | ((with_reducible apply pu_eqT); rfl; rfl) | ((with_reducible apply pu_neT); rfl; rfl) | ((with_reducible apply pu_atT); rfl; rfl; rfl; omega))); (focus rfl))
    | exact True.intro | refine AM ?_ | refine two ?_ ?_
    | (refine imp fun hc => ?_) <;> try exact cx hc
    | refine all fun v_ => ?_)
   refine ⟨(), VS.of_le ?_⟩
   exact leD
 refine FF (IN (X := Unit) (fun _ => [(0, .val (.func (.yield l) #[] #[])), (1, .val (.pointer (some ⟨b, 0, none⟩))), (3, .val (.string (tx x)))]) (fun _ => lnC b r :: hh) ?_ fun _ => ?_)
 · rcases hcases with ⟨c1, c2, rfl, rfl⟩ | ⟨c1, rfl, rfl⟩
   · obtain ⟨n, hn⟩ := Int.eq_ofNat_of_zero_le c1
     rw [hn] at hI c1 c2 ⊢
     rw [Int.toNat_natCast] at c2 ⊢
     repeat' (first
      | refine ca Dw (hI) ?_
      | exact True.intro | refine cM ?_ | refine two ?_ ?_ | refine AG fun c_ => ?_
      | (refine imp fun hc => ?_) <;> try exact cx hc
      | refine all fun v_ => ?_)
     refine ⟨FN mixed (by (repeat (with_reducible apply Aa)); exact len_nil) (by decide +kernel) ?_⟩
     repeat' (first
      | refine ca Dw (hI) ?_
      | exact True.intro | refine AM ?_ | refine two ?_ ?_
      | (refine imp fun hc => ?_) <;> try exact cx hc
      | refine all fun v_ => ?_)
     rw [show ((n : Int) + 1).toNat = n + 1 by omega]
     refine ⟨(), VS.of_le ?_⟩
     exact leD
   · repeat' (first
      | refine ca Dw (hI) ?_
      | exact True.intro | refine AM ?_ | refine two ?_ ?_
      | (refine imp fun hc => ?_) <;> try exact cx hc
      | refine all fun v_ => ?_)
     refine ⟨(), VS.of_le ?_⟩
     exact leD
 refine FF (bK (l := l) (v := .string (tx x)) rfl rfl ((Exact.nil.cons).cons.cons) (hy pre x r hh (by rw [← hx]; exact hi) hl) rfl rfl rfl rfl rfl rfl ?_)
 rintro _ ⟨h', rfl, hF'⟩
 refine Cw ?_
 repeat' (first
  | refine ca Dw (hI) ?_
  | exact True.intro | refine AM ?_ | refine two ?_ ?_
  | (refine imp fun hc => ?_) <;> try exact cx hc
  | refine all fun v_ => ?_)
 refine ⟨(pre ++ [x], r, h'), ⟨⟨?_, hF'⟩, ?_⟩, hlt, VS.of_le ?_⟩
 · show (pre ++ [x]) ++ BK r = _
   rw [← hi, hx]; simp
 · show r.length ≤ _; omega
 exact leD
end Go.Proofs.YtajnpfgelpkijaaGreatDoor
