/- A bundle of this claim's own texts: R5. -/
import Derived.Test.YtajnpfgelpkijaaGreatDoorA21
import Derived.Test.YtajnpfgelpkijaaGreatDoorA40
set_option linter.unusedVariables false
set_option linter.unusedSimpArgs false
set_option maxRecDepth 100000
set_option maxHeartbeats 4000000
namespace Go.Proofs.YtajnpfgelpkijaaGreatDoor
open Go Go.Av Go.Sp
theorem RY : Cal Tryz.prog 9 := Cal.of Tryz.func9 (by kernel_rfl) (by kernel_rfl)
theorem dJ (a b c : Int) : Tryz.prog.built 91 [(0, .int .i64 a), (1, .int .i64 b), (2, .int .i64 c)] = some #[.int .i64 a, .int .i64 b, .int .i64 c] := by kernel_rfl
theorem Show (t : Tk) : ACr Tryz.prog GP 9 [tkA t] (.tup [.val (.string (DD t).1), .int (DD t).2]) := by
 have hP := Sh t
 unfold DD
 refine AK (ts := [2, 3]) Tryz.f9.ntmps Tryz.func9 rfl rfl rfl (by simp [Tryz.ntmps9]) fun W I => ?_
 by_cases h1 : A2 t ≠ 0
 · rw [if_pos h1]
   generalize A2 t = e at hP h1
   repeat' (first
    | refine ca DJ (hP) ?_
    | exact True.intro | refine AM ?_ | refine two ?_ ?_
    | (refine imp fun hc => ?_) <;> try exact cx hc
    | refine all fun v_ => ?_)
   refine AO (VS.drop (List.nil_sublist _)) ?_
   ((with_reducible apply rq2); rfl; rfl; rfl)
   exact AD rfl
 rw [if_neg h1]
 replace h1 := Decidable.not_not.1 h1
 rw [h1] at hP
 have g := TkP.of h1
 have gl := (TkL.of g).all
 have hv6 := g.vars6
 have hr12 := g.rules
 have hp6 := g.props6
 unfold Bo
 generalize hV : t.model.vars.flatMap JO = V at gl ⊢
 refine FQ (E := 5) (sz := 1) Bb ?_
 repeat' (first
  | refine ca DJ (hP) ?_
  | exact True.intro | refine AM ?_ | refine two ?_ ?_
  | (refine imp fun hc => ?_) <;> try exact cx hc
  | refine all fun v_ => ?_)
 obtain ⟨b, rfl⟩ : ∃ x, x = v_ := ⟨v_, rfl⟩
 obtain ⟨bt, rfl⟩ : ∃ x, x = v_ := ⟨v_, rfl⟩
 -- the variables
 refine AL (X := Nat × Bool × Sl) (fun y => [(1, .val (.pointer (some ⟨bt, 0, none⟩))), (5, .val (Cj b)), (23, .d (Ba t.model.vars)), (24, .int t.model.vars.length), (25, .int y.1)]) (fun y => [.cells b 86 [.val (Qq b y.2.1), .val y.2.2.v], AF y.2.2.v 5 1 Bb ((t.model.vars.take y.1).flatMap JO), .cells bt 29 [.d (Ba t.model.vars), .d (BH t.model.rules), .d (Bi t.props), .d (AN t.formula)]]) (fun y => y.1 ≤ t.model.vars.length) (fun y => t.model.vars.length - y.1) (0, false, Sl.nil) (Nat.zero_le _) (VS.take (by exact AB) ?_) ?_
 · exact leD
 rintro ⟨i, u, q⟩ hi0
 dsimp only at hi0 ⊢
 by_cases hi : i < t.model.vars.length
 · have hmem := List.getElem_mem hi
   have hs := C5 JO t.model.vars i
   rw [hV] at hs
   have hn := Gy (g.names _ hmem)
   have hrg := g.range _ hmem
   have k1 := D4 (n := t.model.vars[i].low) (by omega) (by omega)
   have k2 := D4 (n := t.model.vars[i].high) (by omega) (by omega)
   have k3 := D4 (n := t.model.vars[i].init) (by omega) (by omega)
   have e := Jb JO t.model.vars i hi
   generalize (t.model.vars.take i).flatMap JO = s at e hs ⊢
   have hd1 := Ze t.model.vars[i].low (by omega) (by omega)
   have hd2 := Ze t.model.vars[i].high (by omega) (by omega)
   have hd3 := Ze t.model.vars[i].init (by omega) (by omega)
   obtain ⟨nm, hnm⟩ : ∃ nm, nm = t.model.vars[i].name.data.toList := ⟨_, rfl⟩
   have hb1 : s.length + ([118, 97, 114, 32] ++ t.model.vars[i].name.data.toList).length ≤ 140737488355328 := by simp only [List.length_append, List.length_cons, List.length_nil]; omega
   obtain ⟨s0, hs0⟩ : ∃ s0, s0 = s ++ ([118, 97, 114, 32] ++ t.model.vars[i].name.data.toList) := ⟨_, rfl⟩
   have hl0 : s0.length ≤ 81000 := by rw [hs0]; simp only [List.length_append, List.length_cons, List.length_nil]; omega
   obtain ⟨s1, hs1⟩ : ∃ s1, s1 = s0 ++ ([32] ++ Lib.itoa t.model.vars[i].low) := ⟨_, rfl⟩
   have hl1 : s1.length ≤ 82000 := by rw [hs1]; simp only [List.length_append, List.length_cons, List.length_nil]; omega
   obtain ⟨s2, hs2⟩ : ∃ s2, s2 = s1 ++ ([32] ++ Lib.itoa t.model.vars[i].high) := ⟨_, rfl⟩
   have hl2 : s2.length ≤ 83000 := by rw [hs2]; simp only [List.length_append, List.length_cons, List.length_nil]; omega
   obtain ⟨s3, hs3⟩ : ∃ s3, s3 = s2 ++ ([32] ++ Lib.itoa t.model.vars[i].init) := ⟨_, rfl⟩
   have hl3 : s3.length ≤ 84000 := by rw [hs3]; simp only [List.length_append, List.length_cons, List.length_nil]; omega
   have e' : (t.model.vars.take (i + 1)).flatMap JO = s3 ++ [10] := by
    rw [e, hs3, hs2, hs1, hs0]; simp [JO, ai]
   have ha0 : s0.length + ([32] ++ Lib.itoa t.model.vars[i].low).length ≤ 140737488355328 := by simp only [List.length_append, List.length_cons, List.length_nil]; omega
   have ha1 : s1.length + ([32] ++ Lib.itoa t.model.vars[i].high).length ≤ 140737488355328 := by simp only [List.length_append, List.length_cons, List.length_nil]; omega
   have ha2 : s2.length + ([32] ++ Lib.itoa t.model.vars[i].init).length ≤ 140737488355328 := by simp only [List.length_append, List.length_cons, List.length_nil]; omega
   have ha3 : s3.length ≤ 140737488355327 := by omega
   repeat' (first
    | refine cag Am (D7 GP b u q s ([118, 97, 114, 32] ++ t.model.vars[i].name.data.toList) hb1) ?_
    | ((with_reducible apply jp); (focus ((with_reducible apply Jh); rfl; rfl; (focus exact Ad))); (focus rfl))
    | ((with_reducible apply jp); (focus ((with_reducible apply XB); rfl; rfl; rfl; exact dJ _ _ _)); (focus rfl))
    | exact True.intro | refine AM ?_ | refine two ?_ ?_
    | (refine imp fun hc => ?_) <;> try exact cx hc
    | refine all fun v_ => ?_)
   rw [← hs0]
   obtain ⟨S, S0, S1, S2, S3⟩ : ∃ S : Nat → List UInt8, S 0 = s0 ∧ S 1 = s1 ∧ S 2 = s2 ∧ S 3 = s3 := ⟨fun j => match j with | 0 => s0 | 1 => s1 | 2 => s2 | _ => s3, rfl, rfl, rfl, rfl⟩
   rw [← S0, ← S1] at hs1
   rw [← S1, ← S2] at hs2
   rw [← S2, ← S3] at hs3
   rw [← S0] at ha0
   rw [← S1] at ha1
   rw [← S2] at ha2
   rw [← S3] at ha3 e'
   rw [← S0]
   clear hs0 S0 S1 S2 S3 hb1 hl0 hl1 hl2 hl3
   refine AL (X := Nat × Sl) (fun y => [(1, .val (.pointer (some ⟨bt, 0, none⟩))), (5, .val (Cj b)), (23, .d (Ba t.model.vars)), (24, .int t.model.vars.length), (25, .int i), (39, .agg [.int t.model.vars[i].low, .int t.model.vars[i].high, .int t.model.vars[i].init]), (40, .int y.1)]) (fun y => [.cells b 86 [.val (Cj b), .val y.2.v], AF y.2.v 5 1 Bb (S y.1), .cells bt 29 [.d (Ba t.model.vars), .d (BH t.model.rules), .d (Bi t.props), .d (AN t.formula)]]) (fun y => y.1 ≤ 3) (fun y => 3 - y.1) (0, v_) (Nat.zero_le _) (VS.take (by dsimp only; exact AB) ?_) ?_
   · exact leD
   rintro ⟨j, q⟩ hj
   dsimp only at hj ⊢
   by_cases j0 : j = 0
   · subst j0
     repeat' (first
      | refine ca Gz (hd1) ?_
      | ((with_reducible apply jp); (focus ((with_reducible apply CE); rfl; rfl; rfl; rfl; exact IU; decide; rfl)); (focus rfl))
      | refine cag Am (Bg GP b q (S 0) ([32] ++ Lib.itoa t.model.vars[i].low) ha0) ?_
      | exact True.intro | refine AM ?_ | refine two ?_ ?_
      | (refine imp fun hc => ?_) <;> try exact cx hc
      | refine all fun v_ => ?_)
     refine ⟨(1, v_), by dsimp only; omega, by dsimp only; omega, VS.take (by dsimp only; rw [hs1]; exact AB) ?_⟩
     exact leD
   by_cases j1 : j = 1
   · subst j1
     repeat' (first
      | refine ca Gz (hd2) ?_
      | ((with_reducible apply jp); (focus ((with_reducible apply CE); rfl; rfl; rfl; rfl; exact IU; decide; rfl)); (focus rfl))
      | refine cag Am (Bg GP b q (S 1) ([32] ++ Lib.itoa t.model.vars[i].high) ha1) ?_
      | exact True.intro | refine AM ?_ | refine two ?_ ?_
      | (refine imp fun hc => ?_) <;> try exact cx hc
      | refine all fun v_ => ?_)
     refine ⟨(2, v_), by dsimp only; omega, by dsimp only; omega, VS.take (by dsimp only; rw [hs2]; exact AB) ?_⟩
     exact leD
   by_cases j2 : j = 2
   · subst j2
     repeat' (first
      | refine ca Gz (hd3) ?_
      | ((with_reducible apply jp); (focus ((with_reducible apply CE); rfl; rfl; rfl; rfl; exact IU; decide; rfl)); (focus rfl))
      | refine cag Am (Bg GP b q (S 2) ([32] ++ Lib.itoa t.model.vars[i].init) ha2) ?_
      | exact True.intro | refine AM ?_ | refine two ?_ ?_
      | (refine imp fun hc => ?_) <;> try exact cx hc
      | refine all fun v_ => ?_)
     refine ⟨(3, v_), by dsimp only; omega, by dsimp only; omega, VS.take (by dsimp only; rw [hs3]; exact AB) ?_⟩
     exact leD
   obtain rfl : j = 3 := by omega
   repeat' (first
    | refine cag C6 (Sk GP b q (S 3) 10 ha3) ?_
    | exact True.intro | refine AM ?_ | refine two ?_ ?_
    | (refine imp fun hc => ?_) <;> try exact cx hc
    | refine all fun v_ => ?_)
   refine ⟨(i + 1, true, v_), by dsimp only; omega, by dsimp only; omega, VS.take (by dsimp only; rw [e']; exact AB) ?_⟩
   exact leD
 obtain rfl : i = t.model.vars.length := by omega
 rw [List.take_length, hV]
 clear hi hi0
 -- the rules
 generalize hR : t.model.rules.flatMap (Dx t.model.vars) = R at gl ⊢
 repeat' (first
  | exact True.intro | refine AM ?_ | refine two ?_ ?_
  | (refine imp fun hc => ?_) <;> try exact cx hc
  | refine all fun v_ => ?_)
 refine AL (X := Nat × Bool × Sl) (fun y => [(1, .val (.pointer (some ⟨bt, 0, none⟩))), (5, .val (Cj b)), (52, .d (BH t.model.rules)), (53, .int t.model.rules.length), (54, .int y.1)]) (fun y => [.cells b 86 [.val (Qq b y.2.1), .val y.2.2.v], AF y.2.2.v 5 1 Bb (V ++ (t.model.rules.take y.1).flatMap (Dx t.model.vars)), .cells bt 29 [.d (Ba t.model.vars), .d (BH t.model.rules), .d (Bi t.props), .d (AN t.formula)]]) (fun y => y.1 ≤ t.model.rules.length) (fun y => t.model.rules.length - y.1) (0, u, q) (Nat.zero_le _) (VS.take (by dsimp only; rw [show V ++ (t.model.rules.take 0).flatMap (Dx t.model.vars) = V by simp]; exact AB) ?_) ?_
 · exact leD
 clear u q
 rintro ⟨i, u, q⟩ hi0
 dsimp only at hi0 ⊢
 by_cases hi : i < t.model.rules.length
 · have hmem := List.getElem_mem hi
   have hs := C5 (Dx t.model.vars) t.model.rules i
   rw [hR] at hs
   have gg := g.guards _ hmem
   have g6 := g.sets6 _ hmem
   have hw := words t.model t.model.rules[i].guard 0 g.names gg.ops (by omega) gg.few gg.pos
   have hwl := Cs g.names (np := 0) (by omega) t.model.rules[i].guard gg.ops
   have gf := gg.few
   have e := Jb (Dx t.model.vars) t.model.rules i hi
   generalize (t.model.rules.take i).flatMap (Dx t.model.vars) = s at e hs ⊢
   rw [Rl] at e
   generalize Bt t.model.vars t.model.rules[i].guard = w at e hw hwl
   obtain ⟨base, hbase⟩ : ∃ base, base = (V ++ s) ++ ([114, 117, 108, 101] ++ (w ++ [10])) := ⟨_, rfl⟩
   have hbl : base.length ≤ 100000 := by rw [hbase]; simp only [List.length_append, List.length_cons, List.length_nil]; omega
   have e' : V ++ (t.model.rules.take (i + 1)).flatMap (Dx t.model.vars) = base ++ t.model.rules[i].sets.flatMap (HU t.model.vars) := by
    rw [e, hbase]; simp [HS]
   have hb1 : (V ++ s).length + ([114, 117, 108, 101] ++ (w ++ [10])).length ≤ 140737488355328 := by simp only [List.length_append, List.length_cons, List.length_nil]; omega
   repeat' (first
    | refine ca Ds (hw) ?_
    | refine cag Am (D7 GP b u q (V ++ s) ([114, 117, 108, 101] ++ (w ++ [10])) hb1) ?_
    | exact True.intro | refine AM ?_ | refine two ?_ ?_
    | (refine imp fun hc => ?_) <;> try exact cx hc
    | refine all fun v_ => ?_)
   rw [← hbase]
   refine AL (X := Nat × Sl) (fun y => [(1, .val (.pointer (some ⟨bt, 0, none⟩))), (5, .val (Cj b)), (52, .d (BH t.model.rules)), (53, .int t.model.rules.length), (54, .int i), (66, .d (Kc t.model.rules[i].sets)), (67, .int t.model.rules[i].sets.length), (68, .int y.1)]) (fun y => [.cells b 86 [.val (Cj b), .val y.2.v], AF y.2.v 5 1 Bb (base ++ (t.model.rules[i].sets.take y.1).flatMap (HU t.model.vars)), .cells bt 29 [.d (Ba t.model.vars), .d (BH t.model.rules), .d (Bi t.props), .d (AN t.formula)]]) (fun y => y.1 ≤ t.model.rules[i].sets.length) (fun y => t.model.rules[i].sets.length - y.1) (0, v_) (Nat.zero_le _) (VS.take (by dsimp only; rw [show base ++ (t.model.rules[i].sets.take 0).flatMap (HU t.model.vars) = base by simp]; exact AB) ?_) ?_
   · exact leD
   rintro ⟨k, q⟩ hk0
   dsimp only at hk0 ⊢
   by_cases hk : k < t.model.rules[i].sets.length
   · have hm2 := List.getElem_mem hk
     obtain ⟨s1, s2, s3⟩ := g.sets _ hmem _ hm2
     have hs2 := C5 (HU t.model.vars) t.model.rules[i].sets k
     have hsz : (t.model.rules[i].sets.flatMap (HU t.model.vars)).length ≤ 80000 := by
      have h0 := Od (Dx t.model.vars) t.model.rules i hi
      rw [hR, Rl] at h0
      simp only [List.length_append] at h0
      omega
     have hw2 := words t.model t.model.rules[i].sets[k].val 0 g.names s3.ops (by omega) s3.few s3.pos
     have hwl2 := Cs g.names (np := 0) (by omega) t.model.rules[i].sets[k].val s3.ops
     have hlt : t.model.rules[i].sets[k].var.toNat < t.model.vars.length := by omega
     have hn := Gy (g.names _ (List.getElem_mem hlt))
     have sf := s3.few
     have e2 := Jb (HU t.model.vars) t.model.rules[i].sets k hk
     generalize (t.model.rules[i].sets.take k).flatMap (HU t.model.vars) = z at e2 hs2 ⊢
     rw [bw hlt] at e2
     generalize Bt t.model.vars t.model.rules[i].sets[k].val = w2 at e2 hw2 hwl2
     have e3 : base ++ (t.model.rules[i].sets.take (k + 1)).flatMap (HU t.model.vars) = (base ++ z) ++ (([115, 101, 116, 32] ++ t.model.vars[t.model.rules[i].sets[k].var.toNat].name.data.toList) ++ (w2 ++ [10])) := by
      rw [e2]; simp [Zj]
     have hb2 : (base ++ z).length + (([115, 101, 116, 32] ++ t.model.vars[t.model.rules[i].sets[k].var.toNat].name.data.toList) ++ (w2 ++ [10])).length ≤ 140737488355328 := by simp only [List.length_append, List.length_cons, List.length_nil]; omega
     repeat' (first
      | refine ca Ds (hw2) ?_
      | refine caq Ds (hw2) ?_
      | refine cag Am (Bg GP b q (base ++ z) (([115, 101, 116, 32] ++ t.model.vars[t.model.rules[i].sets[k].var.toNat].name.data.toList) ++ (w2 ++ [10])) hb2) ?_
      | ((with_reducible apply jp); (focus ((with_reducible apply Jh); rfl; rfl; (focus exact Ad))); (focus rfl))
      | ((with_reducible apply jqp); (focus ((with_reducible apply Jh); rfl; rfl; (focus exact Ad))); (focus rfl))
      | exact True.intro | refine cM ?_ | refine two ?_ ?_ | refine AG fun c_ => ?_
      | (refine imp fun hc => ?_) <;> try exact cx hc
      | refine all fun v_ => ?_)
     refine ⟨FN mixed (by (repeat (with_reducible apply Aa)); exact len_nil) (by decide +kernel) ?_⟩
     repeat' (first
      | refine ca Ds (hw2) ?_
      | refine caq Ds (hw2) ?_
      | refine cag Am (Bg GP b q (base ++ z) (([115, 101, 116, 32] ++ t.model.vars[t.model.rules[i].sets[k].var.toNat].name.data.toList) ++ (w2 ++ [10])) hb2) ?_
      | ((with_reducible apply jp); (focus ((with_reducible apply Jh); rfl; rfl; (focus exact Ad))); (focus rfl))
      | ((with_reducible apply jqp); (focus ((with_reducible apply Jh); rfl; rfl; (focus exact Ad))); (focus rfl))
      | exact True.intro | refine AM ?_ | refine two ?_ ?_
      | (refine imp fun hc => ?_) <;> try exact cx hc
      | refine all fun v_ => ?_)
     refine ⟨(k + 1, v_), by dsimp only; omega, by dsimp only; omega, VS.take (by dsimp only; rw [e3]; exact AB) ?_⟩
     exact leD
   obtain rfl : k = t.model.rules[i].sets.length := by omega
   rw [List.take_length, ← e']
   repeat' (first
    | exact True.intro | refine AM ?_ | refine two ?_ ?_
    | (refine imp fun hc => ?_) <;> try exact cx hc
    | refine all fun v_ => ?_)
   refine ⟨(i + 1, true, q), by dsimp only; omega, by dsimp only; omega, VS.take (by dsimp only; exact AB) ?_⟩
   exact leD
 obtain rfl : i = t.model.rules.length := by omega
 rw [List.take_length, hR]
 clear hi hi0
 -- the propositions
 generalize hQ : t.props.flatMap (EG t.model.vars) = Q at gl ⊢
 repeat' (first
  | exact True.intro | refine AM ?_ | refine two ?_ ?_
  | (refine imp fun hc => ?_) <;> try exact cx hc
  | refine all fun v_ => ?_)
 refine AL (X := Nat × Bool × Sl) (fun y => [(1, .val (.pointer (some ⟨bt, 0, none⟩))), (5, .val (Cj b)), (91, .d (Bi t.props)), (92, .int t.props.length), (93, .int y.1)]) (fun y => [.cells b 86 [.val (Qq b y.2.1), .val y.2.2.v], AF y.2.2.v 5 1 Bb ((V ++ R) ++ (t.props.take y.1).flatMap (EG t.model.vars)), .cells bt 29 [.d (Ba t.model.vars), .d (BH t.model.rules), .d (Bi t.props), .d (AN t.formula)]]) (fun y => y.1 ≤ t.props.length) (fun y => t.props.length - y.1) (0, u, q) (Nat.zero_le _) (VS.take (by dsimp only; rw [show (V ++ R) ++ (t.props.take 0).flatMap (EG t.model.vars) = V ++ R by simp]; exact AB) ?_) ?_
 · exact leD
 clear u q
 rintro ⟨i, u, q⟩ hi0
 dsimp only at hi0 ⊢
 by_cases hi : i < t.props.length
 · have hmem := List.getElem_mem hi
   have hs := C5 (EG t.model.vars) t.props i
   rw [hQ] at hs
   have gp := g.props _ hmem
   have hw := words t.model t.props[i] 0 g.names gp.ops (by omega) gp.few gp.pos
   have hwl := Cs g.names (np := 0) (by omega) t.props[i] gp.ops
   have gf := gp.few
   have e := Jb (EG t.model.vars) t.props i hi
   generalize (t.props.take i).flatMap (EG t.model.vars) = s at e hs ⊢
   rw [YC] at e
   generalize Bt t.model.vars t.props[i] = w at e hw hwl
   have e' : (V ++ R) ++ (t.props.take (i + 1)).flatMap (EG t.model.vars) = ((V ++ R) ++ s) ++ ([112, 114, 111, 112] ++ (w ++ [10])) := by
    rw [e]; simp [Hb]
   have hb1 : ((V ++ R) ++ s).length + ([112, 114, 111, 112] ++ (w ++ [10])).length ≤ 140737488355328 := by simp only [List.length_append, List.length_cons, List.length_nil]; omega
   repeat' (first
    | refine ca Ds (hw) ?_
    | refine cag Am (D7 GP b u q ((V ++ R) ++ s) ([112, 114, 111, 112] ++ (w ++ [10])) hb1) ?_
    | exact True.intro | refine AM ?_ | refine two ?_ ?_
    | (refine imp fun hc => ?_) <;> try exact cx hc
    | refine all fun v_ => ?_)
   refine ⟨(i + 1, true, v_), by dsimp only; omega, by dsimp only; omega, VS.take (by dsimp only; rw [e']; exact AB) ?_⟩
   exact leD
 obtain rfl : i = t.props.length := by omega
 rw [List.take_length, hQ]
 clear hi hi0
 -- the formula
 have hw := words t.model t.formula t.props.length g.names g.form.ops (by omega) g.form.few g.form.pos
 have hwl := Cs g.names (np := (t.props.length : Int)) (by omega) t.formula g.form.ops
 have gf := g.form.few
 rw [W7] at gl ⊢
 generalize Bt t.model.vars t.formula = w at gl hw hwl ⊢
 have hb1 : ((V ++ R) ++ Q).length + ([99, 104, 101, 99, 107] ++ (w ++ [10])).length ≤ 140737488355328 := by simp only [List.length_append, List.length_cons, List.length_nil]; omega
 have hb2 : 0 < (((V ++ R) ++ Q) ++ ([99, 104, 101, 99, 107] ++ (w ++ [10]))).length := by simp only [List.length_append, List.length_cons, List.length_nil]; omega
 have hb3 : (((V ++ R) ++ Q) ++ ([99, 104, 101, 99, 107] ++ (w ++ [10]))).length ≤ 140737488355328 := by rw [List.length_append]; exact hb1
 repeat' (first
  | refine ca Ds (hw) ?_
  | refine cag Am (D7 GP b u q ((V ++ R) ++ Q) ([99, 104, 101, 99, 107] ++ (w ++ [10])) hb1) ?_
  | refine cag Ee (aV GP b v_ (((V ++ R) ++ Q) ++ ([99, 104, 101, 99, 107] ++ (w ++ [10]))) hb2 hb3) ?_
  | exact True.intro | refine AM ?_ | refine two ?_ ?_
  | (refine imp fun hc => ?_) <;> try exact cx hc
  | refine all fun v_ => ?_)
 refine AO (VS.drop (List.nil_sublist _)) ?_
 ((with_reducible apply rq2); rfl; rfl; rfl)
 exact AD (by simp [Ep])
end Go.Proofs.YtajnpfgelpkijaaGreatDoor
