/- A bundle of this claim's own texts: R9 R11. -/
import Derived.Test.YtajnpfgelpkijaaGreatDoorZ11
import Derived.Test.YtajnpfgelpkijaaGreatDoorZ12
import Derived.Test.YtajnpfgelpkijaaGreatDoorZ13
import Derived.Test.YtajnpfgelpkijaaGreatDoorZ15
set_option linter.unusedVariables false
set_option linter.unusedSimpArgs false
set_option maxRecDepth 100000
set_option maxHeartbeats 4000000
namespace Go.Proofs.YtajnpfgelpkijaaGreatDoor
open Go Go.Av Go.Sp
abbrev lnC (b : Nat) (s : List UInt8) : Ent := .cells b 9 [.val (.string (tx s))]
abbrev lnF (b : Nat) : Value := .func (.func 36) #[] #[.pointer (some ⟨b, 0, none⟩)]
theorem Lines (s : List UInt8) : AC Tryz.prog GP 12 [.val (.string (tx s))] [] fun e h => ∃ b : Nat, e = .ret (.val (lnF b)) ∧ h = [lnC b s] := by
 refine AC_of (ts := [2]) Tryz.f12.ntmps Tryz.func12 rfl rfl rfl (by simp [Tryz.ntmps12]) fun W I => ?_
 repeat' (first
  | ((with_reducible apply jp); (focus ((with_reducible apply pu_func1); rfl)); (focus rfl))
  | ((with_reducible apply jbox1); (focus rfl); (focus rfl); (focus rfl))
  | exact True.intro | refine stpA ?_ | refine two ?_ ?_
  | (refine imp fun hc => ?_) <;> try exact cx hc
  | refine all fun v_ => ?_)
 exact ⟨v_, rfl, rfl⟩
theorem LinesGo (W0 : World) (I0 : Nat → Prop) (E : List Nat) (b : Nat) (s : List UInt8) (l : Nat) (F : List (List UInt8) → H → Prop) (hs : s.length ≤ 100000)
 (hy : ∀ pre x rest h, pre ++ x :: linesE rest = linesE s → F pre h → YieldOk Tryz.prog ⟨W0, I0, E, GP⟩ l (.string (tx x)) (lnC b rest :: h) fun h2 => ∃ h', h2 = lnC b rest :: h' ∧ F (pre ++ [x]) h') (I : Nat → Prop) (W : World) (h : H) (hF : F [] h) (ok : Ok ⟨W0, I0, E, GP⟩ I (lnC b s :: h) W) :
 Calls Tryz.prog 36 (#[.func (.yield l) #[] #[]] ++ #[.pointer (some ⟨b, 0, none⟩)]) W fun e W' => (∃ v, e = .returned v) ∧ ∃ I' r h', F (linesE s) h' ∧ Ok ⟨W0, I0, E, GP⟩ I' (lnC b r :: h') W' := by
 refine (callsJ (Q := fun e h => ∃ r h', e = .ret (.tup []) ∧ h = lnC b r :: h' ∧ F (linesE s) h') (args := [.val (.func (.yield l) #[] #[]), .val (.pointer (some ⟨b, 0, none⟩))]) (vs := [.func (.yield l) #[] #[], .pointer (some ⟨b, 0, none⟩)]) Tryz.f36.ntmps Tryz.func36 rfl rfl rfl (by simp [Tryz.ntmps36]) ok ⟨rfl, rfl, trivial⟩ ?_).mono ?_
 case refine_2 =>
  rintro e w' ⟨r, h', I', ⟨t, h2, rfl, rfl, hF2⟩, k1, k2⟩
  cases e with
  | returned v => exact ⟨⟨v, rfl⟩, I', t, h2, hF2, k1⟩
  | panicked _ => exact k2.elim
  | _ => exact k2.elim
 refine J_block ?_
 refine J_loopV (X := List (List UInt8) × List UInt8 × H) (fun _ => [(0, .val (.func (.yield l) #[] #[])), (1, .val (.pointer (some ⟨b, 0, none⟩)))]) (fun y => lnC b y.2.1 :: y.2.2) (fun y => (y.1 ++ linesE y.2.1 = linesE s ∧ F y.1 y.2.2) ∧ y.2.1.length ≤ s.length) (fun y => y.2.1.length) ([], s, h) ⟨⟨rfl, hF⟩, Nat.le_refl _⟩ (VS.of_le ?_) ?_
 · exact leD
 rintro ⟨pre, rest, hh⟩ ⟨⟨hi, hl⟩, hle⟩
 dsimp only at hi hl hle ⊢
 by_cases h0 : rest = []
 · subst h0
   rw [linesE_nil, List.append_nil] at hi
   repeat' (first
    | ((with_reducible apply jp); (focus (first | ((with_reducible apply pu_lenT); rfl; rfl) | ((with_reducible apply pu_eqT); rfl; rfl) | ((with_reducible apply pu_neT); rfl; rfl) | ((with_reducible apply pu_atT); rfl; rfl; rfl; omega))); (focus rfl))
    | exact True.intro | refine stpA ?_ | refine two ?_ ?_
    | (refine imp fun hc => ?_) <;> try exact cx hc
    | refine all fun v_ => ?_)
   exact ⟨[], hh, rfl, rfl, by rw [← hi]; exact hl⟩
 have hp : 0 < rest.length := List.length_pos_iff.2 h0
 have hcut : ∃ x r, linesE rest = x :: linesE r ∧ r.length < rest.length ∧ ((0 ≤ Lib.indexByte rest 10 ∧ (Lib.indexByte rest 10).toNat < rest.length ∧ x = rest.take ((Lib.indexByte rest 10).toNat + 1) ∧ r = rest.drop ((Lib.indexByte rest 10).toNat + 1)) ∨ (Lib.indexByte rest 10 < 0 ∧ x = rest ∧ r = [])) := by
  rcases line_next h0 with ⟨c1, c2, c3⟩ | ⟨c1, c3⟩
  · exact ⟨_, _, c3, by rw [List.length_drop]; omega, .inl ⟨c1, c2, rfl, rfl⟩⟩
  · exact ⟨_, _, c3, by simpa using hp, .inr ⟨c1, rfl, rfl⟩⟩
 obtain ⟨x, r, hx, hlt, hcases⟩ := hcut
 have hI := IndexByte rest
 refine J_seq (J_cutT (X := Unit) (fun _ => [(0, .val (.func (.yield l) #[] #[])), (1, .val (.pointer (some ⟨b, 0, none⟩)))]) (fun _ => lnC b rest :: hh) ?_ fun _ => ?_)
 · repeat' (first
    | ((with_reducible apply jp); (focus (first | ((with_reducible apply pu_lenT); rfl; rfl) | ((with_reducible apply pu_eqT); rfl; rfl) | ((with_reducible apply pu_neT); rfl; rfl) | ((with_reducible apply pu_atT); rfl; rfl; rfl; omega))); (focus rfl))
    | exact True.intro | refine stpA ?_ | refine two ?_ ?_
    | (refine imp fun hc => ?_) <;> try exact cx hc
    | refine all fun v_ => ?_)
   refine ⟨(), VS.of_le ?_⟩
   exact leD
 refine J_block (J_seq (J_cutT (X := Unit) (fun _ => [(0, .val (.func (.yield l) #[] #[])), (1, .val (.pointer (some ⟨b, 0, none⟩)))]) (fun _ => lnC b rest :: hh) ?_ fun _ => ?_))
 · repeat' (first
    | ((with_reducible apply jp); (focus (first | ((with_reducible apply pu_lenT); rfl; rfl) | ((with_reducible apply pu_eqT); rfl; rfl) | ((with_reducible apply pu_neT); rfl; rfl) | ((with_reducible apply pu_atT); rfl; rfl; rfl; omega))); (focus rfl))
    | exact True.intro | refine stpA ?_ | refine two ?_ ?_
    | (refine imp fun hc => ?_) <;> try exact cx hc
    | refine all fun v_ => ?_)
   refine ⟨(), VS.of_le ?_⟩
   exact leD
 refine J_seq (J_cutT (X := Unit) (fun _ => [(0, .val (.func (.yield l) #[] #[])), (1, .val (.pointer (some ⟨b, 0, none⟩))), (3, .val (.string (tx x)))]) (fun _ => lnC b r :: hh) ?_ fun _ => ?_)
 · rcases hcases with ⟨c1, c2, rfl, rfl⟩ | ⟨c1, rfl, rfl⟩
   · obtain ⟨n, hn⟩ := Int.eq_ofNat_of_zero_le c1
     rw [hn] at hI c1 c2 ⊢
     rw [Int.toNat_natCast] at c2 ⊢
     repeat' (first
      | refine ca cal_IndexByte (hI) ?_
      | exact True.intro | refine stp0 ?_ | refine two ?_ ?_ | refine allc fun c_ => ?_
      | (refine imp fun hc => ?_) <;> try exact cx hc
      | refine all fun v_ => ?_)
     refine ⟨J_region_tail mixed (by (repeat (with_reducible apply len_cons)); exact len_nil) (by decide +kernel) ?_⟩
     repeat' (first
      | refine ca cal_IndexByte (hI) ?_
      | exact True.intro | refine stpA ?_ | refine two ?_ ?_
      | (refine imp fun hc => ?_) <;> try exact cx hc
      | refine all fun v_ => ?_)
     rw [show ((n : Int) + 1).toNat = n + 1 by omega]
     refine ⟨(), VS.of_le ?_⟩
     exact leD
   · repeat' (first
      | refine ca cal_IndexByte (hI) ?_
      | exact True.intro | refine stpA ?_ | refine two ?_ ?_
      | (refine imp fun hc => ?_) <;> try exact cx hc
      | refine all fun v_ => ?_)
     refine ⟨(), VS.of_le ?_⟩
     exact leD
 refine J_seq (J_yield (l := l) (v := .string (tx x)) rfl rfl ((Exact.nil.cons).cons.cons) (hy pre x r hh (by rw [← hx]; exact hi) hl) rfl rfl rfl rfl rfl rfl ?_)
 rintro _ ⟨h', rfl, hF'⟩
 refine tq_normal ?_
 repeat' (first
  | refine ca cal_IndexByte (hI) ?_
  | exact True.intro | refine stpA ?_ | refine two ?_ ?_
  | (refine imp fun hc => ?_) <;> try exact cx hc
  | refine all fun v_ => ?_)
 refine ⟨(pre ++ [x], r, h'), ⟨⟨?_, hF'⟩, ?_⟩, hlt, VS.of_le ?_⟩
 · show (pre ++ [x]) ++ linesE r = _
   rw [← hi, hx]; simp
 · show r.length ≤ _; omega
 exact leD
end Go.Proofs.YtajnpfgelpkijaaGreatDoor
namespace Go.Sp
open Go Go.Av
theorem numI_at {w : List UInt8} {n : Int} (h0 : -1000 ≤ n) (h1 : n ≤ 1000) (h : Lib.itoa n = w) : numI w = n := by rw [← h]; exact numI_itoa ⟨h0, h1⟩
theorem digits_len : ∀ n : Nat, n ≤ 1000 → (Lib.decDigits n).length ≤ 4 := by
 intro n h
 have h1 : ∀ n : Fin 1001, (Lib.decDigits n.val).length ≤ 4 := by decide +kernel
 exact h1 ⟨n, by omega⟩
theorem itoa_len5 {n : Int} (h0 : -1000 ≤ n) (h1 : n ≤ 1000) : (Lib.itoa n).length ≤ 5 := by
 unfold Lib.itoa
 split
 · have := digits_len n.natAbs (by omega)
   simp only [List.length_cons, List.length_append, List.length_nil]; omega
 · have := digits_len n.toNat (by omega)
   omega
end Go.Sp
namespace Go.Av
open Go
section
variable {k : Kx} {Q : Exit → Env → H → Prop} {ρ : Env} {h : H} {ops : Array Oper} {l : List Oper} {d : Nat} {ty : TypeId} {pos : String} {after : Array Edge}
theorem jbuild_s {T E : TypeId} {x : Operand} {s : ByteArray} {z : Value} {eb : Nat} (hx : evO ρ x = some (.val (.string s))) (hT : k.P.underlying T = some (.slice E)) (he : El k.P E z 1 eb) (hb : Nat.ble eb 1000000 = true)
 (hd : Nat.blt d k.n = true) (hj : JL k ops l Q ((d, .d (.l 1 eb [[.s s]])) :: ρ) h) : JL k ops (⟨some d, .buildSlice T 1 #[(0, x)], ty, pos, after, none⟩ :: l) Q ρ h :=
 jbuild1 hT he (by decide) hx rfl rfl rfl (Nat.le_trans (Nat.le_of_ble_eq_true hb) (by decide)) (by decide) hd hj
end
end Go.Av
namespace Go.Proofs.YtajnpfgelpkijaaGreatDoor
open Go Go.Av Go.Sp
theorem cal_varOf : Cal Tryz.prog 19 := Cal.of Tryz.func19 (by kernel_rfl) (by kernel_rfl)
theorem cal_numberOf : Cal Tryz.prog 17 := Cal.of Tryz.func17 (by kernel_rfl) (by kernel_rfl)
theorem cal_wordsOf : Cal Tryz.prog 16 := Cal.of Tryz.func16 (by kernel_rfl) (by kernel_rfl)
theorem rvarOf (G : List (Nat × List D)) (qv : Sl) (qr : Sl) (vars : List Vr) (w : List UInt8) (hv : vars.length ≤ 100000) : AC Tryz.prog G 19 [.agg [.val qv.v, .val qr.v], .val (.string (tx w))] [rowE qv.v 68 4 Vr.cells vars] fun e h => ∃ _ : Unit, e = .ret (.int (varI vars w)) ∧ h = [rowE qv.v 68 4 Vr.cells vars] := by
 refine AC_ofV (ts := [4]) Tryz.f19.ntmps Tryz.func19 rfl rfl rfl (by simp [Tryz.ntmps19]) fun W I => ?_
 repeat' (first
  | refine allocD ?_
  | exact True.intro | refine stpA ?_ | refine two ?_ ?_
  | (refine imp fun hc => ?_) <;> try exact cx hc
  | refine all fun v_ => ?_)
 obtain ⟨bm, rfl⟩ : ∃ x, x = v_ := ⟨v_, rfl⟩
 refine J_loopV (X := Nat) (fun i => [(1, .val (.string (tx w))), (2, .val (.pointer (some ⟨bm, 0, none⟩))), (5, .int i)]) (fun _ => [.cells bm 25 [.val qv.v, .val qr.v], rowE qv.v 68 4 Vr.cells vars]) (fun i => i ≤ vars.length ∧ ∀ j (hj : j < i) (hl : j < vars.length), vars[j].name.data.toList ≠ w) (fun i => vars.length - i) 0 ⟨Nat.zero_le _, fun j hj => absurd hj (Nat.not_lt_zero _)⟩ (VS.take (by exact takedD) ?_) ?_
 · exact leD
 rintro i ⟨hi0, hprev⟩
 by_cases hi : i < vars.length
 · repeat' (first
    | refine allocD ?_
    | exact True.intro | refine stpA ?_ | refine two ?_ ?_
    | (refine imp fun hc => ?_) <;> try exact cx hc
    | refine all fun v_ => ?_)
   · refine retv (VS.take (hc := [rowE qv.v 68 4 Vr.cells vars]) (by exact takedD) (Env.le_refl _)) ?_
     ((with_reducible apply rq1); rfl; rfl)
     exact ⟨(), by rw [varI_first i hi (name_eq hc) fun j hj => hprev j hj (by omega)], rfl⟩
   · refine ⟨i + 1, ⟨by omega, fun j hj hl => ?_⟩, by omega, VS.take (by exact takedD) ?_⟩
     · by_cases e : j = i
       · subst e; exact name_ne hc
       · exact hprev j (by omega) hl
     · exact leD
 obtain rfl : i = vars.length := by omega
 repeat' (first
  | refine allocD ?_
  | exact True.intro | refine stpA ?_ | refine two ?_ ?_
  | (refine imp fun hc => ?_) <;> try exact cx hc
  | refine all fun v_ => ?_)
 refine retv (VS.take (hc := [rowE qv.v 68 4 Vr.cells vars]) (by exact takedD) (Env.le_refl _)) ?_
 ((with_reducible apply rq1); rfl; rfl)
 exact ⟨(), by rw [varI_none fun j hj => hprev j hj hj], rfl⟩
theorem rnumOf (G : List (Nat × List D)) (w : List UInt8) : ACr Tryz.prog G 17 [.val (.string (tx w))] (.int (numI w)) := by
 refine AC_ofV (ts := [2]) Tryz.f17.ntmps Tryz.func17 rfl rfl rfl (by simp [Tryz.ntmps17]) fun W I => ?_
 repeat' (first
  | ((with_reducible apply jp); (focus (first | ((with_reducible apply pu_lenT); rfl; rfl) | ((with_reducible apply pu_eqT); rfl; rfl) | ((with_reducible apply pu_neT); rfl; rfl) | ((with_reducible apply pu_atT); rfl; rfl; rfl; omega))); (focus rfl))
  | exact True.intro | refine stpA ?_ | refine two ?_ ?_
  | (refine imp fun hc => ?_) <;> try exact cx hc
  | refine all fun v_ => ?_)
 refine J_loopV (X := Nat) (fun i => [(0, .val (.string (tx w))), (3, .int (-1000 + (i : Int)))]) (fun _ => []) (fun i => i ≤ 2001 ∧ ∀ n : Int, -1000 ≤ n → n < -1000 + (i : Int) → Lib.itoa n ≠ w) (fun i => 2001 - i) 0 ⟨Nat.zero_le _, fun n h1 h2 => by omega⟩ (VS.take (by exact takedD) ?_) ?_
 · exact leD
 rintro i ⟨hi0, hprev⟩
 obtain ⟨n, hn⟩ : ∃ n : Int, n = -1000 + (i : Int) := ⟨_, rfl⟩
 rw [← hn] at hprev ⊢
 by_cases hi : n ≤ 1000
 · have hD := DecI G n (by omega) (by omega)
   have hlen := itoa_len5 (n := n) (by omega) hi
   repeat' (first
    | ((with_reducible apply jp); (focus (first | ((with_reducible apply pu_lenT); rfl; rfl) | ((with_reducible apply pu_eqT); rfl; rfl) | ((with_reducible apply pu_neT); rfl; rfl) | ((with_reducible apply pu_atT); rfl; rfl; rfl; omega))); (focus rfl))
    | refine ca cal_Dec (hD) ?_
    | exact True.intro | refine stpA ?_ | refine two ?_ ?_
    | (refine imp fun hc => ?_) <;> try exact cx hc
    | refine all fun v_ => ?_)
   · refine retv (VS.drop (List.nil_sublist _)) ?_
     ((with_reducible apply rq1); rfl; rfl)
     exact ⟨by rw [numI_at (by omega) hi (tx_eq hc)], rfl⟩
   · refine ⟨i + 1, ⟨by omega, fun m h1 h2 => ?_⟩, by omega, VS.take (by exact takedD) ?_⟩
     · by_cases e : m = n
       · rw [e]; exact tx_ne hc
       · exact hprev m h1 (by omega)
     · exact leD
   · refine ⟨i + 1, ⟨by omega, fun m h1 h2 e => ?_⟩, by omega, VS.take (by exact takedD) ?_⟩
     · have := itoa_len5 (n := m) h1 (by omega)
       rw [e] at this
       omega
     · exact leD
 have hlast : ∀ n : Int, -1000 ≤ n → n ≤ 1000 → Lib.itoa n ≠ w := fun m h1 h2 => hprev m h1 (by omega)
 rw [numI_no hlast]
 repeat' (first
  | ((with_reducible apply jp); (focus (first | ((with_reducible apply pu_lenT); rfl; rfl) | ((with_reducible apply pu_eqT); rfl; rfl) | ((with_reducible apply pu_neT); rfl; rfl) | ((with_reducible apply pu_atT); rfl; rfl; rfl; omega))); (focus rfl))
  | refine ca cal_Dec (hD) ?_
  | exact True.intro | refine stpA ?_ | refine two ?_ ?_
  | (refine imp fun hc => ?_) <;> try exact cx hc
  | refine all fun v_ => ?_)
 refine retv (VS.drop (List.nil_sublist _)) ?_
 ((with_reducible apply rq1); rfl; rfl)
 exact ⟨rfl, rfl⟩
theorem rwordsOf (G : List (Nat × List D)) (s : List UInt8) (hs : s.length ≤ 100000) : ACr Tryz.prog G 16 [.val (.string (tx s))] (.d (linD (spl 32 s))) := by
 refine AC_ofV (ts := [2]) Tryz.f16.ntmps Tryz.func16 rfl rfl rfl (by simp [Tryz.ntmps16]) fun W I => ?_
 refine jrow (E := 9) (sz := 1) wdC ?_
 repeat' (first
  | ((with_reducible apply jp); (focus (first | ((with_reducible apply pu_lenT); rfl; rfl) | ((with_reducible apply pu_eqT); rfl; rfl) | ((with_reducible apply pu_neT); rfl; rfl) | ((with_reducible apply pu_atT); rfl; rfl; rfl; omega))); (focus rfl))
  | ((with_reducible apply jbuild_s); (focus rfl); (focus rfl); (focus (with_reducible exact ElC.h)); (focus rfl); (focus rfl))
  | ((with_reducible apply (japU1 (f := wdC) (u := (s.drop f).take (i - f)))); (focus rfl); (focus rfl); (focus (with_reducible exact ElC.h)); (focus exact updqD); (focus rfl); (focus rfl); (focus rfl); (focus rfl); (focus exact bndD); (focus exact bndD))
  | exact True.intro | refine stpA ?_ | refine two ?_ ?_
  | (refine imp fun hc => ?_) <;> try exact cx hc
  | refine all fun v_ => ?_)
 refine J_loopV (X := Nat × Nat × List (List UInt8) × Sl) (fun y => [(0, .val (.string (tx s))), (3, .val y.2.2.2.v), (4, .int y.2.1), (5, .int y.1)]) (fun y => [rowE y.2.2.2.v 9 1 wdC y.2.2.1]) (fun y => (y.1 ≤ s.length ∧ CutI 32 s y.2.1 y.1 y.2.2.1 ∧ y.2.2.1.length ≤ y.1) ∨ (y.1 = s.length + 1 ∧ y.2.2.1 = spl 32 s)) (fun y => s.length + 1 - y.1) (0, 0, [], Sl.nil) (.inl ⟨Nat.zero_le _, CutI.start 32 s, Nat.le_refl _⟩) (VS.take (by exact takedD) ?_) ?_
 · exact leD
 rintro ⟨i, f, ws, q⟩ hinv
 dsimp only at hinv ⊢
 rcases hinv with ⟨hi, hcut, hwl⟩ | ⟨rfl, rfl⟩
 · have hfi := hcut.le
   by_cases hi2 : i < s.length
   · repeat' (first
      | ((with_reducible apply jp); (focus (first | ((with_reducible apply pu_lenT); rfl; rfl) | ((with_reducible apply pu_eqT); rfl; rfl) | ((with_reducible apply pu_neT); rfl; rfl) | ((with_reducible apply pu_atT); rfl; rfl; rfl; omega))); (focus rfl))
      | ((with_reducible apply jbuild_s); (focus rfl); (focus rfl); (focus (with_reducible exact ElC.h)); (focus rfl); (focus rfl))
      | ((with_reducible apply (japU1 (f := wdC) (u := (s.drop f).take (i - f)))); (focus rfl); (focus rfl); (focus (with_reducible exact ElC.h)); (focus exact updqD); (focus rfl); (focus rfl); (focus rfl); (focus rfl); (focus exact bndD); (focus exact bndD))
      | exact True.intro | refine stpA ?_ | refine two ?_ ?_
      | (refine imp fun hc => ?_) <;> try exact cx hc
      | refine all fun v_ => ?_)
     · refine ⟨(i + 1, i + 1, ws ++ [(s.drop f).take (i - f)], v_), .inl ⟨by dsimp only; omega, hcut.cut hi2 (UInt8.toNat_inj.1 (by show s[i].toNat = 32; omega)), by simp; omega⟩, by dsimp only; omega, VS.take (by exact takedD) ?_⟩
       exact leD
     · refine ⟨(i + 1, f, ws, q), .inl ⟨by dsimp only; omega, hcut.on hi2 (fun e => hc (by rw [e]; rfl)), by dsimp only; omega⟩, by dsimp only; omega, VS.take (by exact takedD) ?_⟩
       exact leD
   obtain rfl : i = s.length := by omega
   repeat' (first
    | ((with_reducible apply jp); (focus (first | ((with_reducible apply pu_lenT); rfl; rfl) | ((with_reducible apply pu_eqT); rfl; rfl) | ((with_reducible apply pu_neT); rfl; rfl) | ((with_reducible apply pu_atT); rfl; rfl; rfl; omega))); (focus rfl))
    | ((with_reducible apply jbuild_s); (focus rfl); (focus rfl); (focus (with_reducible exact ElC.h)); (focus rfl); (focus rfl))
    | ((with_reducible apply (japU1 (f := wdC) (u := (s.drop f).take (i - f)))); (focus rfl); (focus rfl); (focus (with_reducible exact ElC.h)); (focus exact updqD); (focus rfl); (focus rfl); (focus rfl); (focus rfl); (focus exact bndD); (focus exact bndD))
    | exact True.intro | refine stpA ?_ | refine two ?_ ?_
    | (refine imp fun hc => ?_) <;> try exact cx hc
    | refine all fun v_ => ?_)
   refine ⟨(s.length + 1, s.length + 1, spl 32 s, v_), .inr ⟨rfl, rfl⟩, by dsimp only; omega, VS.take (by dsimp only; rw [hcut.ends, ← List.take_of_length_le (l := s.drop f) (i := s.length - f) (by rw [List.length_drop]; exact Nat.le_refl _)]; exact takedD) ?_⟩
   exact leD
 · have hlen := spl_len 32 s
   repeat' (first
    | ((with_reducible apply jp); (focus (first | ((with_reducible apply pu_lenT); rfl; rfl) | ((with_reducible apply pu_eqT); rfl; rfl) | ((with_reducible apply pu_neT); rfl; rfl) | ((with_reducible apply pu_atT); rfl; rfl; rfl; omega))); (focus rfl))
    | ((with_reducible apply jbuild_s); (focus rfl); (focus rfl); (focus (with_reducible exact ElC.h)); (focus rfl); (focus rfl))
    | ((with_reducible apply (japU1 (f := wdC) (u := (s.drop f).take (i - f)))); (focus rfl); (focus rfl); (focus (with_reducible exact ElC.h)); (focus exact updqD); (focus rfl); (focus rfl); (focus rfl); (focus rfl); (focus exact bndD); (focus exact bndD))
    | exact True.intro | refine stpA ?_ | refine two ?_ ?_
    | (refine imp fun hc => ?_) <;> try exact cx hc
    | refine all fun v_ => ?_)
   refine retv (vfreeze (t := 2) (eb := 16) rfl rfl (fun x => rfl) (by omega)) ?_
   ((with_reducible apply rq1); rfl; rfl)
   exact ⟨rfl, rfl⟩
end Go.Proofs.YtajnpfgelpkijaaGreatDoor
