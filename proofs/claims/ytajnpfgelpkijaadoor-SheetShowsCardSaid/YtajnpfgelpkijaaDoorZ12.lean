/- A bundle of this claim's own texts: E25 R4 R3 R5 TopS. -/
import Derived.Test.YtajnpfgelpkijaaDoorCards
import Derived.Test.YtajnpfgelpkijaaDoorTie
import Derived.WalkKit
import Derived.ProofKit
import Derived.OpenShut
import Derived.Deep.DeepHandedRow
import Derived.Lib.LaidTab
import Derived.Test.YtajnpfgelpkijaaDoorZ1
import Derived.Test.YtajnpfgelpkijaaDoorZ2
import Derived.Test.YtajnpfgelpkijaaDoorZ6
import Derived.Test.YtajnpfgelpkijaaDoorZ11
set_option linter.unusedVariables false
set_option linter.unusedSimpArgs false
set_option maxRecDepth 100000
set_option maxHeartbeats 4000000
namespace Go.Av
open Go
section
variable {P : Program} {G : List (Nat × List D)} {ρ : Env} {h : H} {dst : Option Tmp} {ty : TypeId} {pos : String} {after : Array Edge} {g : Option (Nat × Bool)}
theorem pu_load_glob {T : TypeId} {x : Operand} {gl off : Nat} {c : D} {cs : List D} (hT : isAggB P T = some false) (hx : evO ρ x = some (.val (.pointer (some ⟨gl, off, none⟩)))) (hG : (gl, cs) ∈ G) (hc : cs[off]? = some c) : Pure P G ⟨dst, .load T x, ty, pos, after, g⟩ ρ h c.av := by
 intro k I n a w hGc hok hs
 have e1 := rel_val (hs.ev x) (ev_of_evO hx)
 have hpd := hok.glob (gl, cs) (by rw [hGc]; exact hG)
 obtain ⟨u, hu, hr⟩ := hpd.2 off c hc
 refine ⟨u, D.av_rel hr, fun w' hw' => ?_⟩
 have hcell : w'.cell? ⟨gl, off, none⟩ = some u := by
  have hu' : w.cell? ⟨gl, off, none⟩ = some u := by
   have : (⟨gl, 0, none⟩ : Addr).add off = ⟨gl, off, none⟩ := by rw [Addr.add_lit, Nat.zero_add]
   rw [← this]; exact hu
  exact (World.cell?_of_block (w := w) (hw'.imm gl hpd.1)).trans hu'
 simp [execOp, e1, Instr.loadAt, Instr.sureAddr, loadVar, run_isAgg hT, run_load, hcell]
theorem pu_catS {T T' : TypeId} {x y : Operand} {a : List UInt8} {t : ByteArray} (hx : evO ρ x = some (.val (.string (Go.Sp.tx a)))) (hy : evO ρ y = some (.val (.string t))) (hb : a.length + t.data.toList.length ≤ 9223372036854775807) : Pure P G ⟨dst, .binOp .add T x y T', ty, pos, after, g⟩ ρ h (.val (.string (Go.Sp.tx (a ++ t.data.toList)))) := by
 rw [← Go.Sp.app_tx]
 exact pu_cat hx hy (by rw [Array.length_toList] at hb; exact hb)
theorem pu_index_agg {T E : TypeId} {x y : Operand} {cs : List AV} {len n : Nat} {r : AV} {z : Value} {eb : Nat} (hx : evO ρ x = some (.agg cs)) (hy : evO ρ y = some (.int (n : Int))) (hT : P.underlying T = some (.array len E)) (hA : isAggB P E = some false) (hE : El P E z 1 eb) (hn : n < len) (hr : cs[n]? = some r) :
 Pure P G ⟨dst, .index T x y, ty, pos, after, g⟩ ρ h r :=
 pure_free fun w I _ a hs => by
  obtain ⟨i, hi, _, hsz, _⟩ := hE.get
  obtain ⟨vs, hv, hrel⟩ := rel_as (hs.ev x) (ev_of_evO hx)
  have e2 := rel_val (hs.ev y) (ev_of_evO hy)
  obtain ⟨v, h1, h2⟩ := AV.rels_get hrel n r hr
  refine ⟨v, h2, fun w' => ?_⟩
  have hn' : (n : Int) < (len : Int) := by omega
  have h3 : vs.toArray[n]? = some v := by simpa using h1
  simp [execOp, hv, e2, Instr.index, asIntOf, run_underlying hT, hn', part, run_isAgg hA, sizeOf, typeInfo, hi, hsz, h1]
  intro hle
  omega
theorem pu_build3 {T : TypeId} {x0 x1 x2 : Operand} {a b c : Int} (h0 : evO ρ x0 = some (.int a)) (h1 : evO ρ x1 = some (.int b)) (h2 : evO ρ x2 = some (.int c)) (hB : P.built T [(0, .int .i64 a), (1, .int .i64 b), (2, .int .i64 c)] = some #[.int .i64 a, .int .i64 b, .int .i64 c]) :
 Pure P G ⟨dst, .build T #[(0, x0), (1, x1), (2, x2)], ty, pos, after, g⟩ ρ h (.agg [.int a, .int b, .int c]) :=
 pure_free fun w I _ act hs => by
  have e0 := rel_val (hs.ev x0) (ev_of_evO h0)
  have e1 := rel_val (hs.ev x1) (ev_of_evO h1)
  have e2 := rel_val (hs.ev x2) (ev_of_evO h2)
  refine ⟨.agg #[.int .i64 a, .int .i64 b, .int .i64 c], ⟨[_, _, _], rfl, rfl, rfl, rfl, trivial⟩, fun w' => ?_⟩
  have hr := run_build (P := P) w' T #[(0, .int .i64 a), (1, .int .i64 b), (2, .int .i64 c)] _ hB
  simp [execOp, e0, e1, e2, hr]
end
end Go.Av
namespace Go.Proofs.YtajnpfgelpkijaaDoor
open Go Go.Av Go.Sp
theorem cal_TaskShown : Cal Tryd.prog 6 := Cal.of Tryd.func6 (by kernel_rfl) (by kernel_rfl)
theorem TaskShown (G : List (Nat × List D)) (t : Tk) : ACr Tryd.prog G 6 [tkA t] (.tup [.val (.string (shownF t).1), .int (shownF t).2]) := by
 have hP := TaskFault G t
 unfold shownF
 refine AC_ofV (ts := [2, 3]) Tryd.f6.ntmps Tryd.func6 rfl rfl rfl (by simp [Tryd.ntmps6]) fun W I => ?_
 by_cases h1 : taskF t ≠ 0
 · rw [if_pos h1]
   generalize taskF t = e at hP h1
   repeat' (first
    | refine ca cal_TaskFault (hP) ?_
    | exact True.intro | refine stpH ?_ | refine two ?_ ?_ | refine allc fun c_ => ?_
    | (refine imp fun hc => ?_) <;> try exact cx1 hc
    | refine all fun v_ => ?_)
   refine retv (VS.drop (List.nil_sublist _)) ?_
   ((with_reducible apply rq2); rfl; rfl; rfl)
   exact ret_eq rfl
 rw [if_neg h1]
 replace h1 := Decidable.not_not.1 h1
 rw [h1] at hP
 have g := TkP.of h1
 have gl := (TkL.of g).all
 have hv6 := g.vars6
 have hr12 := g.rules
 have hp6 := g.props6
 unfold shownL
 generalize hV : t.model.vars.flatMap varL = V at gl ⊢
 repeat' (first
  | refine ca cal_TaskFault (hP) ?_
  | exact True.intro | refine stpH ?_ | refine two ?_ ?_ | refine allc fun c_ => ?_
  | (refine imp fun hc => ?_) <;> try exact cx1 hc
  | refine all fun v_ => ?_)
 obtain ⟨bt, rfl⟩ : ∃ x, x = v_ := ⟨v_, rfl⟩
 refine J_loopV (X := Nat) (fun i => [(1, .val (.pointer (some ⟨bt, 0, none⟩))), (5, .val (.string (tx ((t.model.vars.take i).flatMap varL)))), (6, .int i)]) (fun _ => [.cells bt 29 [.d (varsD t.model.vars), .d (rulesD t.model.rules), .d (termsD t.props), .d (opsD t.formula)]]) (fun i => i ≤ t.model.vars.length) (fun i => t.model.vars.length - i) 0 (Nat.zero_le _) (VS.take (by exact takedD) ?_) ?_
 · exact leD
 rintro i hi0
 by_cases hi : i < t.model.vars.length
 · have hmem := List.getElem_mem hi
   have hs := flat_take_len varL t.model.vars i
   rw [hV] at hs
   have hn := name_len (g.names _ hmem)
   have hrg := g.range _ hmem
   have k1 := itoa_len (n := t.model.vars[i].low) (by omega) (by omega)
   have k2 := itoa_len (n := t.model.vars[i].high) (by omega) (by omega)
   have k3 := itoa_len (n := t.model.vars[i].init) (by omega) (by omega)
   have e := flat_at varL t.model.vars i hi
   generalize (t.model.vars.take i).flatMap varL = s at e hs ⊢
   have e' : (t.model.vars.take (i + 1)).flatMap varL = (((((((s ++ [118, 97, 114, 32]) ++ t.model.vars[i].name.data.toList) ++ [32]) ++ Lib.itoa t.model.vars[i].low) ++ [32]) ++ Lib.itoa t.model.vars[i].high) ++ [32]) ++ Lib.itoa t.model.vars[i].init ++ [10] := by
    rw [e]; simp [varL, varW]
   have hd1 := DecI G t.model.vars[i].low (by omega) (by omega)
   have hd2 := DecI G t.model.vars[i].high (by omega) (by omega)
   have hd3 := DecI G t.model.vars[i].init (by omega) (by omega)
   repeat' (first
    | refine ca cal_Dec (hd1) ?_
    | refine ca cal_Dec (hd2) ?_
    | refine ca cal_Dec (hd3) ?_
    | ((with_reducible apply jp); (focus ((with_reducible apply pu_catS); rfl; rfl; (focus exact bndD))); (focus rfl))
    | exact True.intro | refine stpH ?_ | refine two ?_ ?_ | refine allc fun c_ => ?_
    | (refine imp fun hc => ?_) <;> try exact cx1 hc
    | refine all fun v_ => ?_)
   all_goals
    refine ⟨i + 1, by omega, by omega, VS.take (by exact takedD) ?_⟩
    rw [e']
    exact leD
 obtain rfl : i = t.model.vars.length := by omega
 rw [List.take_length, hV]
 clear hi hi0
 generalize hR : t.model.rules.flatMap (ruleL t.model.vars) = R at gl ⊢
 repeat' (first
  | exact True.intro | refine stpH ?_ | refine two ?_ ?_ | refine allc fun c_ => ?_
  | (refine imp fun hc => ?_) <;> try exact cx1 hc
  | refine all fun v_ => ?_)
 refine J_loopV (X := Nat) (fun i => [(1, .val (.pointer (some ⟨bt, 0, none⟩))), (5, .val (.string (tx (V ++ (t.model.rules.take i).flatMap (ruleL t.model.vars))))), (8, .int i)]) (fun _ => [.cells bt 29 [.d (varsD t.model.vars), .d (rulesD t.model.rules), .d (termsD t.props), .d (opsD t.formula)]]) (fun i => i ≤ t.model.rules.length) (fun i => t.model.rules.length - i) 0 (Nat.zero_le _) (VS.take (by exact takedD) ?_) ?_
 · rw [show V ++ (t.model.rules.take 0).flatMap (ruleL t.model.vars) = V by simp]
   exact leD
 rintro i hi0
 by_cases hi : i < t.model.rules.length
 · have hmem := List.getElem_mem hi
   have hs := flat_take_len (ruleL t.model.vars) t.model.rules i
   rw [hR] at hs
   have gg := g.guards _ hmem
   have g6 := g.sets6 _ hmem
   have hw := termWords G t.model t.model.rules[i].guard 0 g.names gg.ops (by omega) gg.few
   have hwl := term_len g.names (np := 0) (by omega) t.model.rules[i].guard gg.ops
   have gf := gg.few
   have e := flat_at (ruleL t.model.vars) t.model.rules i hi
   generalize (t.model.rules.take i).flatMap (ruleL t.model.vars) = s at e hs ⊢
   rw [ruleL_eq] at e
   generalize termL t.model.vars t.model.rules[i].guard = w at e hw hwl
   obtain ⟨base, hbase⟩ : ∃ base, base = (((V ++ s) ++ [114, 117, 108, 101]) ++ w) ++ [10] := ⟨_, rfl⟩
   have hbl : base.length ≤ 100000 := by rw [hbase]; simp only [List.length_append, List.length_cons, List.length_nil]; omega
   have e' : V ++ (t.model.rules.take (i + 1)).flatMap (ruleL t.model.vars) = base ++ t.model.rules[i].sets.flatMap (setL t.model.vars) := by
    rw [e, hbase]; simp [ruleW]
   repeat' (first
    | refine ca cal_termWords (hw) ?_
    | exact True.intro | refine stpH ?_ | refine two ?_ ?_ | refine allc fun c_ => ?_
    | (refine imp fun hc => ?_) <;> try exact cx1 hc
    | refine all fun v_ => ?_)
   obtain ⟨br, rfl⟩ : ∃ x, x = v_ := ⟨v_, rfl⟩
   rw [← hbase]
   refine J_loopV (X := Nat) (fun k => [(1, .val (.pointer (some ⟨bt, 0, none⟩))), (5, .val (.string (tx (base ++ (t.model.rules[i].sets.take k).flatMap (setL t.model.vars))))), (8, .int i), (9, .val (.pointer (some ⟨br, 0, none⟩))), (10, .int k)]) (fun _ => [.cells br 55 [.d (opsD t.model.rules[i].guard), .d (setsD t.model.rules[i].sets)], .cells bt 29 [.d (varsD t.model.vars), .d (rulesD t.model.rules), .d (termsD t.props), .d (opsD t.formula)]]) (fun k => k ≤ t.model.rules[i].sets.length) (fun k => t.model.rules[i].sets.length - k) 0 (Nat.zero_le _) (VS.take (by exact takedD) ?_) ?_
   · rw [show base ++ (t.model.rules[i].sets.take 0).flatMap (setL t.model.vars) = base by simp]
     exact leD
   rintro k hk0
   by_cases hk : k < t.model.rules[i].sets.length
   · have hm2 := List.getElem_mem hk
     obtain ⟨s1, s2, s3⟩ := g.sets _ hmem _ hm2
     have hs2 := flat_take_len (setL t.model.vars) t.model.rules[i].sets k
     have hsz : (t.model.rules[i].sets.flatMap (setL t.model.vars)).length ≤ 80000 := by
      have h0 := flat_one_len (ruleL t.model.vars) t.model.rules i hi
      rw [hR, ruleL_eq] at h0
      simp only [List.length_append] at h0
      omega
     have hw2 := termWords G t.model t.model.rules[i].sets[k].val 0 g.names s3.ops (by omega) s3.few
     have hwl2 := term_len g.names (np := 0) (by omega) t.model.rules[i].sets[k].val s3.ops
     have hlt : t.model.rules[i].sets[k].var.toNat < t.model.vars.length := by omega
     have hn := name_len (g.names _ (List.getElem_mem hlt))
     have sf := s3.few
     have e2 := flat_at (setL t.model.vars) t.model.rules[i].sets k hk
     generalize (t.model.rules[i].sets.take k).flatMap (setL t.model.vars) = z at e2 hs2 ⊢
     rw [setL_eq hlt] at e2
     generalize termL t.model.vars t.model.rules[i].sets[k].val = w2 at e2 hw2 hwl2
     have e3 : base ++ (t.model.rules[i].sets.take (k + 1)).flatMap (setL t.model.vars) = ((((base ++ z) ++ [115, 101, 116, 32]) ++ t.model.vars[t.model.rules[i].sets[k].var.toNat].name.data.toList) ++ w2) ++ [10] := by
      rw [e2]; simp [setW]
     repeat' (first
      | refine ca cal_termWords (hw2) ?_
      | ((with_reducible apply jp); (focus ((with_reducible apply pu_catS); rfl; rfl; (focus exact bndD))); (focus rfl))
      | exact True.intro | refine stpH ?_ | refine two ?_ ?_ | refine allc fun c_ => ?_
      | (refine imp fun hc => ?_) <;> try exact cx1 hc
      | refine all fun v_ => ?_)
     all_goals
      refine ⟨k + 1, by omega, by omega, VS.take (by exact takedD) ?_⟩
      rw [e3]
      exact leD
   obtain rfl : k = t.model.rules[i].sets.length := by omega
   rw [List.take_length, ← e']
   repeat' (first
    | exact True.intro | refine stpH ?_ | refine two ?_ ?_ | refine allc fun c_ => ?_
    | (refine imp fun hc => ?_) <;> try exact cx1 hc
    | refine all fun v_ => ?_)
   refine ⟨i + 1, by omega, by omega, VS.take (by exact takedD) ?_⟩
   exact leD
 obtain rfl : i = t.model.rules.length := by omega
 rw [List.take_length, hR]
 clear hi hi0
 generalize hQ : t.props.flatMap (propL t.model.vars) = Q at gl ⊢
 repeat' (first
  | exact True.intro | refine stpH ?_ | refine two ?_ ?_ | refine allc fun c_ => ?_
  | (refine imp fun hc => ?_) <;> try exact cx1 hc
  | refine all fun v_ => ?_)
 refine J_loopV (X := Nat) (fun i => [(1, .val (.pointer (some ⟨bt, 0, none⟩))), (5, .val (.string (tx ((V ++ R) ++ (t.props.take i).flatMap (propL t.model.vars))))), (11, .int i)]) (fun _ => [.cells bt 29 [.d (varsD t.model.vars), .d (rulesD t.model.rules), .d (termsD t.props), .d (opsD t.formula)]]) (fun i => i ≤ t.props.length) (fun i => t.props.length - i) 0 (Nat.zero_le _) (VS.take (by exact takedD) ?_) ?_
 · rw [show (V ++ R) ++ (t.props.take 0).flatMap (propL t.model.vars) = V ++ R by simp]
   exact leD
 rintro i hi0
 by_cases hi : i < t.props.length
 · have hmem := List.getElem_mem hi
   have hs := flat_take_len (propL t.model.vars) t.props i
   rw [hQ] at hs
   have gp := g.props _ hmem
   have hw := termWords G t.model t.props[i] 0 g.names gp.ops (by omega) gp.few
   have hwl := term_len g.names (np := 0) (by omega) t.props[i] gp.ops
   have gf := gp.few
   have e := flat_at (propL t.model.vars) t.props i hi
   generalize (t.props.take i).flatMap (propL t.model.vars) = s at e hs ⊢
   rw [propL_eq] at e
   generalize termL t.model.vars t.props[i] = w at e hw hwl
   have e' : (V ++ R) ++ (t.props.take (i + 1)).flatMap (propL t.model.vars) = ((((V ++ R) ++ s) ++ [112, 114, 111, 112]) ++ w) ++ [10] := by
    rw [e]; simp [propW]
   repeat' (first
    | refine ca cal_termWords (hw) ?_
    | exact True.intro | refine stpH ?_ | refine two ?_ ?_ | refine allc fun c_ => ?_
    | (refine imp fun hc => ?_) <;> try exact cx1 hc
    | refine all fun v_ => ?_)
   all_goals
    refine ⟨i + 1, by omega, by omega, VS.take (by exact takedD) ?_⟩
    rw [e']
    exact leD
 obtain rfl : i = t.props.length := by omega
 rw [List.take_length, hQ]
 clear hi hi0
 have hw := termWords G t.model t.formula t.props.length g.names g.form.ops (by omega) g.form.few
 have hwl := term_len g.names (np := (t.props.length : Int)) (by omega) t.formula g.form.ops
 have gf := g.form.few
 rw [checkL_eq] at gl ⊢
 generalize termL t.model.vars t.formula = w at gl hw hwl ⊢
 repeat' (first
  | refine ca cal_termWords (hw) ?_
  | exact True.intro | refine stpH ?_ | refine two ?_ ?_ | refine allc fun c_ => ?_
  | (refine imp fun hc => ?_) <;> try exact cx1 hc
  | refine all fun v_ => ?_)
 all_goals
  refine retv (VS.drop (List.nil_sublist _)) ?_
  ((with_reducible apply rq2); rfl; rfl; rfl)
  exact ret_eq (by simp [checkW])
theorem cal_words : Cal Tryd.prog 15 := Cal.of Tryd.func15 (by kernel_rfl) (by kernel_rfl)
theorem WriteStringS (G : List (Nat × List D)) (b : Nat) (q : Sl) (xs l : List UInt8) (hb : xs.length + l.length ≤ 140737488355328) : AC Tryd.prog G 12 [.val (selfP b), .val (.string (tx l))] [.cells b 43 [.val (selfP b), .val q.v], rowE q.v 5 1 byteC xs] fun e h => ∃ q' : Sl, e = .ret (.tup [.int l.length, .val .nilIface]) ∧ h = [.cells b 43 [.val (selfP b), .val q'.v], rowE q'.v 5 1 byteC (xs ++ l)] := WriteString G b true q xs l hb
theorem WriteByteS (G : List (Nat × List D)) (b : Nat) (q : Sl) (xs : List UInt8) (c : UInt8) (hb : xs.length ≤ 140737488355327) : AC Tryd.prog G 14 [.val (selfP b), AV.byte c] [.cells b 43 [.val (selfP b), .val q.v], rowE q.v 5 1 byteC xs] fun e h => ∃ q' : Sl, e = .ret (.val .nilIface) ∧ h = [.cells b 43 [.val (selfP b), .val q'.v], rowE q'.v 5 1 byteC (xs ++ [c])] := WriteByte G b true q xs c hb
theorem StringS (G : List (Nat × List D)) (b : Nat) (q : Sl) (xs : List UInt8) (h0 : 0 < xs.length) (hb : xs.length ≤ 140737488355328) : AC Tryd.prog G 16 [.val (selfP b)] [.cells b 43 [.val (selfP b), .val q.v], rowE q.v 5 1 byteC xs] fun e h => ∃ _ : Unit, e = .ret (.val (.string (tx xs))) ∧ h = [] := String G b true q xs h0 hb
theorem marksT_at {k : Int} (h0 : 0 ≤ k) (h1 : k ≤ 18) : marksT[0 + k.toNat * 1]? = some (.s (tx (markL k))) := by
 have : k = 0 ∨ k = 1 ∨ k = 2 ∨ k = 3 ∨ k = 4 ∨ k = 5 ∨ k = 6 ∨ k = 7 ∨ k = 8 ∨ k = 9 ∨ k = 10 ∨ k = 11 ∨ k = 12 ∨ k = 13 ∨ k = 14 ∨ k = 15 ∨ k = 16 ∨ k = 17 ∨ k = 18 := by omega
 rcases this with h | h | h | h | h | h | h | h | h | h | h | h | h | h | h | h | h | h | h <;> subst h <;> rfl
theorem words (m : Md) (l : List Fo) (np : Int) (hn : ∀ v ∈ m.vars, nameP v.name) (h : ∀ o ∈ l, OpP m.vars.length np o) (hp : np ≤ 6) (h60 : l.length ≤ 60) (h00 : 0 < l.length) : ACr Tryd.prog GP 15 [mdA m, .d (opsD l)] (.val (.string (tx (termL m.vars l ++ [10])))) := by
 refine AC_ofV (ts := [4]) Tryd.f15.ntmps Tryd.func15 rfl rfl rfl (by simp [Tryd.ntmps15]) fun W I => ?_
 refine jfact (t := 1) rfl fun hfact => ?_
 refine jrow (E := 5) (sz := 1) byteC ?_
 repeat' (first
  | exact True.intro | refine stpA ?_ | refine two ?_ ?_
  | (refine imp fun hc => ?_) <;> try exact cx hc
  | refine all fun v_ => ?_)
 obtain ⟨b, rfl⟩ : ∃ x, x = v_ := ⟨v_, rfl⟩
 obtain ⟨bm, rfl⟩ : ∃ x, x = v_ := ⟨v_, rfl⟩
 refine J_loopV (X := Nat × Bool × Sl) (fun y => [(2, .val (.pointer (some ⟨bm, 0, none⟩))), (5, .val (selfP b)), (8, .d (opsD l)), (9, .int l.length), (10, .int y.1)]) (fun y => [.cells b 43 [.val (newP b y.2.1), .val y.2.2.v], rowE y.2.2.v 5 1 byteC (termL m.vars (l.take y.1)), .cells bm 25 [.d (varsD m.vars), .d (rulesD m.rules)]]) (fun y => y.1 ≤ l.length ∧ (y.2.1 = true ∨ y.1 = 0)) (fun y => l.length - y.1) (0, false, Sl.nil) ⟨Nat.zero_le _, .inr rfl⟩ (VS.take (by exact takedD) ?_) ?_
 · exact leD
 rintro ⟨i, u, q⟩ ⟨hi0, hu⟩
 dsimp only at hi0 hu ⊢
 by_cases hi : i < l.length
 · have e := termL_at m.vars l i hi
   have hl := term_len hn hp (l.take i) fun o ho => h o (List.mem_of_mem_take ho)
   have hl2 : (l.take i).length = i := by rw [List.length_take]; omega
   have hw := word_len hn (h _ (List.getElem_mem hi)) hp
   have ho := h _ (List.getElem_mem hi)
   rw [hl2] at hl
   generalize termL m.vars (l.take i) = s at e hl ⊢
   have e' : termL m.vars (l.take (i + 1)) = (s ++ [32]) ++ wordL m.vars l[i] := by rw [e]; simp
   clear e
   have hb1 : s.length ≤ 140737488355327 := by omega
   have hb2 : (s ++ [32]).length + (wordL m.vars l[i]).length ≤ 140737488355328 := by rw [List.length_append]; simp; omega
   have ho := h _ (List.getElem_mem hi)
   have a1 := ho.lo
   have a2 := ho.hi
   unfold wordL at hw hb2 e'
   by_cases h1 : l[i].kind = 1
   · have hv := ho.num h1
     have hv1 : -9223372036854775808 ≤ l[i].val := by omega
     have hv2 : l[i].val ≤ 9223372036854775807 := by omega
     rw [if_pos h1] at hw hb2 e'
     repeat' (first
      | refine cag cal_WriteByte (WriteByte GP b u q s 32 hb1) ?_
      | refine cag cal_WriteString (WriteStringS GP b v_ (s ++ [32]) (Lib.itoa l[i].val) hb2) ?_
      | refine ca cal_Itoa (Itoa l[i].val hv1 hv2) ?_
      | exact True.intro | refine stpA ?_ | refine two ?_ ?_
      | (refine imp fun hc => ?_) <;> try exact cx hc
      | refine all fun v_ => ?_)
     refine ⟨(i + 1, true, v_), ⟨by dsimp only; omega, .inl rfl⟩, by dsimp only; omega, VS.take (by dsimp only; rw [e']; exact takedD) ?_⟩
     exact leD
   rw [if_neg h1] at hw hb2 e'
   by_cases h2 : l[i].kind = 2
   · have hv := ho.var h2
     have hlt : l[i].val.toNat < m.vars.length := by omega
     rw [if_pos h2, List.getElem?_eq_getElem hlt] at hw hb2 e'
     repeat' (first
      | refine cag cal_WriteByte (WriteByte GP b u q s 32 hb1) ?_
      | refine cag cal_WriteString (WriteStringS GP b v_ (s ++ [32]) m.vars[l[i].val.toNat].name.data.toList hb2) ?_
      | exact True.intro | refine stpA ?_ | refine two ?_ ?_
      | (refine imp fun hc => ?_) <;> try exact cx hc
      | refine all fun v_ => ?_)
     refine ⟨(i + 1, true, v_), ⟨by dsimp only; omega, .inl rfl⟩, by dsimp only; omega, VS.take (by dsimp only; rw [e']; exact takedD) ?_⟩
     exact leD
   rw [if_neg h2] at hw hb2 e'
   by_cases h13 : l[i].kind = 13
   · have hv := ho.prop h13
     have hv1 : -9223372036854775808 ≤ l[i].val := by omega
     have hv2 : l[i].val ≤ 9223372036854775807 := by omega
     rw [if_pos h13] at hw hb2 e'
     rw [show (80 :: Lib.itoa l[i].val : List UInt8) = [80] ++ Lib.itoa l[i].val from rfl] at hw hb2 e'
     have hw2 : (Lib.itoa l[i].val).length ≤ 12 := by rw [List.length_append] at hw; omega
     repeat' (first
      | refine cag cal_WriteByte (WriteByte GP b u q s 32 hb1) ?_
      | refine cag cal_WriteString (WriteStringS GP b v_ (s ++ [32]) ([80] ++ Lib.itoa l[i].val) hb2) ?_
      | refine ca cal_Itoa (Itoa l[i].val hv1 hv2) ?_
      | exact True.intro | refine stpA ?_ | refine two ?_ ?_
      | (refine imp fun hc => ?_) <;> try exact cx hc
      | refine all fun v_ => ?_)
     refine ⟨(i + 1, true, v_), ⟨by dsimp only; omega, .inl rfl⟩, by dsimp only; omega, VS.take (by dsimp only; rw [e']; exact takedD) ?_⟩
     exact leD
   rw [if_neg h13] at hw hb2 e'
   have hmk := marksT_at (k := l[i].kind) (by omega) (by omega)
   repeat' (first
    | refine cag cal_WriteByte (WriteByte GP b u q s 32 hb1) ?_
    | refine cag cal_WriteString (WriteStringS GP b v_ (s ++ [32]) (markL l[i].kind) hb2) ?_
    | ((with_reducible apply jp); (focus ((with_reducible apply (pu_load_glob (c := .s (tx (markL l[i].kind))))); rfl; rfl; exact GP_marks; exact hmk)); (focus rfl))
    | exact True.intro | refine stpA ?_ | refine two ?_ ?_
    | (refine imp fun hc => ?_) <;> try exact cx hc
    | refine all fun v_ => ?_)
   refine ⟨(i + 1, true, v_), ⟨by dsimp only; omega, .inl rfl⟩, by dsimp only; omega, VS.take (by dsimp only; rw [e']; exact takedD) ?_⟩
   exact leD
 obtain rfl : i = l.length := by omega
 rw [List.take_length]
 have hl := term_len hn hp l h
 have hpos : 0 < (termL m.vars l).length := by
  unfold termL
  cases l with
  | nil => cases h00
  | cons o l => simp
 generalize termL m.vars l = s at hl hpos ⊢
 have hb3 : s.length ≤ 140737488355328 := by omega
 repeat' (first
  | refine cag cal_String (String GP b u q s hpos hb3) ?_
  | exact True.intro | refine stpA ?_ | refine two ?_ ?_
  | (refine imp fun hc => ?_) <;> try exact cx hc
  | refine all fun v_ => ?_)
 refine retv (VS.drop (List.nil_sublist _)) ?_
 ((with_reducible apply rq1); rfl; rfl)
 exact ret_eq rfl
theorem cal_Show : Cal Tryd.prog 5 := Cal.of Tryd.func5 (by kernel_rfl) (by kernel_rfl)
theorem built3 (a b c : Int) : Tryd.prog.built 50 [(0, .int .i64 a), (1, .int .i64 b), (2, .int .i64 c)] = some #[.int .i64 a, .int .i64 b, .int .i64 c] := by kernel_rfl
theorem Show (t : Tk) : ACr Tryd.prog GP 5 [tkA t] (.tup [.val (.string (shownF t).1), .int (shownF t).2]) := by
 have hP := PCheck t
 unfold shownF
 refine AC_ofV (ts := [2, 3]) Tryd.f5.ntmps Tryd.func5 rfl rfl rfl (by simp [Tryd.ntmps5]) fun W I => ?_
 by_cases h1 : taskF t ≠ 0
 · rw [if_pos h1]
   generalize taskF t = e at hP h1
   repeat' (first
    | refine ca cal_PCheck (hP) ?_
    | exact True.intro | refine stpA ?_ | refine two ?_ ?_
    | (refine imp fun hc => ?_) <;> try exact cx hc
    | refine all fun v_ => ?_)
   refine retv (VS.drop (List.nil_sublist _)) ?_
   ((with_reducible apply rq2); rfl; rfl; rfl)
   exact ret_eq rfl
 rw [if_neg h1]
 replace h1 := Decidable.not_not.1 h1
 rw [h1] at hP
 have g := TkP.of h1
 have gl := (TkL.of g).all
 have hv6 := g.vars6
 have hr12 := g.rules
 have hp6 := g.props6
 unfold shownL
 generalize hV : t.model.vars.flatMap varL = V at gl ⊢
 refine jrow (E := 5) (sz := 1) byteC ?_
 repeat' (first
  | refine ca cal_PCheck (hP) ?_
  | exact True.intro | refine stpA ?_ | refine two ?_ ?_
  | (refine imp fun hc => ?_) <;> try exact cx hc
  | refine all fun v_ => ?_)
 obtain ⟨b, rfl⟩ : ∃ x, x = v_ := ⟨v_, rfl⟩
 obtain ⟨bt, rfl⟩ : ∃ x, x = v_ := ⟨v_, rfl⟩
 -- the variables
 refine J_loopV (X := Nat × Bool × Sl) (fun y => [(1, .val (.pointer (some ⟨bt, 0, none⟩))), (5, .val (selfP b)), (23, .d (varsD t.model.vars)), (24, .int t.model.vars.length), (25, .int y.1)]) (fun y => [.cells b 43 [.val (newP b y.2.1), .val y.2.2.v], rowE y.2.2.v 5 1 byteC ((t.model.vars.take y.1).flatMap varL), .cells bt 29 [.d (varsD t.model.vars), .d (rulesD t.model.rules), .d (termsD t.props), .d (opsD t.formula)]]) (fun y => y.1 ≤ t.model.vars.length) (fun y => t.model.vars.length - y.1) (0, false, Sl.nil) (Nat.zero_le _) (VS.take (by exact takedD) ?_) ?_
 · exact leD
 rintro ⟨i, u, q⟩ hi0
 dsimp only at hi0 ⊢
 by_cases hi : i < t.model.vars.length
 · have hmem := List.getElem_mem hi
   have hs := flat_take_len varL t.model.vars i
   rw [hV] at hs
   have hn := name_len (g.names _ hmem)
   have hrg := g.range _ hmem
   have k1 := itoa_len (n := t.model.vars[i].low) (by omega) (by omega)
   have k2 := itoa_len (n := t.model.vars[i].high) (by omega) (by omega)
   have k3 := itoa_len (n := t.model.vars[i].init) (by omega) (by omega)
   have e := flat_at varL t.model.vars i hi
   generalize (t.model.vars.take i).flatMap varL = s at e hs ⊢
   have hd1 := Itoa t.model.vars[i].low (by omega) (by omega)
   have hd2 := Itoa t.model.vars[i].high (by omega) (by omega)
   have hd3 := Itoa t.model.vars[i].init (by omega) (by omega)
   obtain ⟨nm, hnm⟩ : ∃ nm, nm = t.model.vars[i].name.data.toList := ⟨_, rfl⟩
   have hb1 : s.length + ([118, 97, 114, 32] ++ t.model.vars[i].name.data.toList).length ≤ 140737488355328 := by simp only [List.length_append, List.length_cons, List.length_nil]; omega
   obtain ⟨s0, hs0⟩ : ∃ s0, s0 = s ++ ([118, 97, 114, 32] ++ t.model.vars[i].name.data.toList) := ⟨_, rfl⟩
   have hl0 : s0.length ≤ 81000 := by rw [hs0]; simp only [List.length_append, List.length_cons, List.length_nil]; omega
   obtain ⟨s1, hs1⟩ : ∃ s1, s1 = s0 ++ ([32] ++ Lib.itoa t.model.vars[i].low) := ⟨_, rfl⟩
   have hl1 : s1.length ≤ 82000 := by rw [hs1]; simp only [List.length_append, List.length_cons, List.length_nil]; omega
   obtain ⟨s2, hs2⟩ : ∃ s2, s2 = s1 ++ ([32] ++ Lib.itoa t.model.vars[i].high) := ⟨_, rfl⟩
   have hl2 : s2.length ≤ 83000 := by rw [hs2]; simp only [List.length_append, List.length_cons, List.length_nil]; omega
   obtain ⟨s3, hs3⟩ : ∃ s3, s3 = s2 ++ ([32] ++ Lib.itoa t.model.vars[i].init) := ⟨_, rfl⟩
   have hl3 : s3.length ≤ 84000 := by rw [hs3]; simp only [List.length_append, List.length_cons, List.length_nil]; omega
   have e' : (t.model.vars.take (i + 1)).flatMap varL = s3 ++ [10] := by
    rw [e, hs3, hs2, hs1, hs0]; simp [varL, varW]
   have ha0 : s0.length + ([32] ++ Lib.itoa t.model.vars[i].low).length ≤ 140737488355328 := by simp only [List.length_append, List.length_cons, List.length_nil]; omega
   have ha1 : s1.length + ([32] ++ Lib.itoa t.model.vars[i].high).length ≤ 140737488355328 := by simp only [List.length_append, List.length_cons, List.length_nil]; omega
   have ha2 : s2.length + ([32] ++ Lib.itoa t.model.vars[i].init).length ≤ 140737488355328 := by simp only [List.length_append, List.length_cons, List.length_nil]; omega
   have ha3 : s3.length ≤ 140737488355327 := by omega
   repeat' (first
    | refine cag cal_WriteString (WriteString GP b u q s ([118, 97, 114, 32] ++ t.model.vars[i].name.data.toList) hb1) ?_
    | ((with_reducible apply jp); (focus ((with_reducible apply pu_catS); rfl; rfl; (focus exact bndD))); (focus rfl))
    | ((with_reducible apply jp); (focus ((with_reducible apply pu_build3); rfl; rfl; rfl; exact built3 _ _ _)); (focus rfl))
    | exact True.intro | refine stpA ?_ | refine two ?_ ?_
    | (refine imp fun hc => ?_) <;> try exact cx hc
    | refine all fun v_ => ?_)
   rw [← hs0]
   obtain ⟨S, S0, S1, S2, S3⟩ : ∃ S : Nat → List UInt8, S 0 = s0 ∧ S 1 = s1 ∧ S 2 = s2 ∧ S 3 = s3 := ⟨fun j => match j with | 0 => s0 | 1 => s1 | 2 => s2 | _ => s3, rfl, rfl, rfl, rfl⟩
   rw [← S0, ← S1] at hs1
   rw [← S1, ← S2] at hs2
   rw [← S2, ← S3] at hs3
   rw [← S0] at ha0
   rw [← S1] at ha1
   rw [← S2] at ha2
   rw [← S3] at ha3 e'
   rw [← S0]
   clear hs0 S0 S1 S2 S3 hb1 hl0 hl1 hl2 hl3
   refine J_loopV (X := Nat × Sl) (fun y => [(1, .val (.pointer (some ⟨bt, 0, none⟩))), (5, .val (selfP b)), (23, .d (varsD t.model.vars)), (24, .int t.model.vars.length), (25, .int i), (39, .agg [.int t.model.vars[i].low, .int t.model.vars[i].high, .int t.model.vars[i].init]), (40, .int y.1)]) (fun y => [.cells b 43 [.val (selfP b), .val y.2.v], rowE y.2.v 5 1 byteC (S y.1), .cells bt 29 [.d (varsD t.model.vars), .d (rulesD t.model.rules), .d (termsD t.props), .d (opsD t.formula)]]) (fun y => y.1 ≤ 3) (fun y => 3 - y.1) (0, v_) (Nat.zero_le _) (VS.take (by dsimp only; exact takedD) ?_) ?_
   · exact leD
   rintro ⟨j, q⟩ hj
   dsimp only at hj ⊢
   by_cases j0 : j = 0
   · subst j0
     repeat' (first
      | refine ca cal_Itoa (hd1) ?_
      | ((with_reducible apply jp); (focus ((with_reducible apply pu_index_agg); rfl; rfl; rfl; rfl; exact el_int; decide; rfl)); (focus rfl))
      | refine cag cal_WriteString (WriteStringS GP b q (S 0) ([32] ++ Lib.itoa t.model.vars[i].low) ha0) ?_
      | exact True.intro | refine stpA ?_ | refine two ?_ ?_
      | (refine imp fun hc => ?_) <;> try exact cx hc
      | refine all fun v_ => ?_)
     refine ⟨(1, v_), by dsimp only; omega, by dsimp only; omega, VS.take (by dsimp only; rw [hs1]; exact takedD) ?_⟩
     exact leD
   by_cases j1 : j = 1
   · subst j1
     repeat' (first
      | refine ca cal_Itoa (hd2) ?_
      | ((with_reducible apply jp); (focus ((with_reducible apply pu_index_agg); rfl; rfl; rfl; rfl; exact el_int; decide; rfl)); (focus rfl))
      | refine cag cal_WriteString (WriteStringS GP b q (S 1) ([32] ++ Lib.itoa t.model.vars[i].high) ha1) ?_
      | exact True.intro | refine stpA ?_ | refine two ?_ ?_
      | (refine imp fun hc => ?_) <;> try exact cx hc
      | refine all fun v_ => ?_)
     refine ⟨(2, v_), by dsimp only; omega, by dsimp only; omega, VS.take (by dsimp only; rw [hs2]; exact takedD) ?_⟩
     exact leD
   by_cases j2 : j = 2
   · subst j2
     repeat' (first
      | refine ca cal_Itoa (hd3) ?_
      | ((with_reducible apply jp); (focus ((with_reducible apply pu_index_agg); rfl; rfl; rfl; rfl; exact el_int; decide; rfl)); (focus rfl))
      | refine cag cal_WriteString (WriteStringS GP b q (S 2) ([32] ++ Lib.itoa t.model.vars[i].init) ha2) ?_
      | exact True.intro | refine stpA ?_ | refine two ?_ ?_
      | (refine imp fun hc => ?_) <;> try exact cx hc
      | refine all fun v_ => ?_)
     refine ⟨(3, v_), by dsimp only; omega, by dsimp only; omega, VS.take (by dsimp only; rw [hs3]; exact takedD) ?_⟩
     exact leD
   obtain rfl : j = 3 := by omega
   repeat' (first
    | refine cag cal_WriteByte (WriteByteS GP b q (S 3) 10 ha3) ?_
    | exact True.intro | refine stpA ?_ | refine two ?_ ?_
    | (refine imp fun hc => ?_) <;> try exact cx hc
    | refine all fun v_ => ?_)
   refine ⟨(i + 1, true, v_), by dsimp only; omega, by dsimp only; omega, VS.take (by dsimp only; rw [e']; exact takedD) ?_⟩
   exact leD
 obtain rfl : i = t.model.vars.length := by omega
 rw [List.take_length, hV]
 clear hi hi0
 -- the rules
 generalize hR : t.model.rules.flatMap (ruleL t.model.vars) = R at gl ⊢
 repeat' (first
  | exact True.intro | refine stpA ?_ | refine two ?_ ?_
  | (refine imp fun hc => ?_) <;> try exact cx hc
  | refine all fun v_ => ?_)
 refine J_loopV (X := Nat × Bool × Sl) (fun y => [(1, .val (.pointer (some ⟨bt, 0, none⟩))), (5, .val (selfP b)), (52, .d (rulesD t.model.rules)), (53, .int t.model.rules.length), (54, .int y.1)]) (fun y => [.cells b 43 [.val (newP b y.2.1), .val y.2.2.v], rowE y.2.2.v 5 1 byteC (V ++ (t.model.rules.take y.1).flatMap (ruleL t.model.vars)), .cells bt 29 [.d (varsD t.model.vars), .d (rulesD t.model.rules), .d (termsD t.props), .d (opsD t.formula)]]) (fun y => y.1 ≤ t.model.rules.length) (fun y => t.model.rules.length - y.1) (0, u, q) (Nat.zero_le _) (VS.take (by dsimp only; rw [show V ++ (t.model.rules.take 0).flatMap (ruleL t.model.vars) = V by simp]; exact takedD) ?_) ?_
 · exact leD
 clear u q
 rintro ⟨i, u, q⟩ hi0
 dsimp only at hi0 ⊢
 by_cases hi : i < t.model.rules.length
 · have hmem := List.getElem_mem hi
   have hs := flat_take_len (ruleL t.model.vars) t.model.rules i
   rw [hR] at hs
   have gg := g.guards _ hmem
   have g6 := g.sets6 _ hmem
   have hw := words t.model t.model.rules[i].guard 0 g.names gg.ops (by omega) gg.few gg.pos
   have hwl := term_len g.names (np := 0) (by omega) t.model.rules[i].guard gg.ops
   have gf := gg.few
   have e := flat_at (ruleL t.model.vars) t.model.rules i hi
   generalize (t.model.rules.take i).flatMap (ruleL t.model.vars) = s at e hs ⊢
   rw [ruleL_eq] at e
   generalize termL t.model.vars t.model.rules[i].guard = w at e hw hwl
   obtain ⟨base, hbase⟩ : ∃ base, base = (V ++ s) ++ ([114, 117, 108, 101] ++ (w ++ [10])) := ⟨_, rfl⟩
   have hbl : base.length ≤ 100000 := by rw [hbase]; simp only [List.length_append, List.length_cons, List.length_nil]; omega
   have e' : V ++ (t.model.rules.take (i + 1)).flatMap (ruleL t.model.vars) = base ++ t.model.rules[i].sets.flatMap (setL t.model.vars) := by
    rw [e, hbase]; simp [ruleW]
   have hb1 : (V ++ s).length + ([114, 117, 108, 101] ++ (w ++ [10])).length ≤ 140737488355328 := by simp only [List.length_append, List.length_cons, List.length_nil]; omega
   repeat' (first
    | refine ca cal_words (hw) ?_
    | refine cag cal_WriteString (WriteString GP b u q (V ++ s) ([114, 117, 108, 101] ++ (w ++ [10])) hb1) ?_
    | exact True.intro | refine stpA ?_ | refine two ?_ ?_
    | (refine imp fun hc => ?_) <;> try exact cx hc
    | refine all fun v_ => ?_)
   rw [← hbase]
   refine J_loopV (X := Nat × Sl) (fun y => [(1, .val (.pointer (some ⟨bt, 0, none⟩))), (5, .val (selfP b)), (52, .d (rulesD t.model.rules)), (53, .int t.model.rules.length), (54, .int i), (66, .d (setsD t.model.rules[i].sets)), (67, .int t.model.rules[i].sets.length), (68, .int y.1)]) (fun y => [.cells b 43 [.val (selfP b), .val y.2.v], rowE y.2.v 5 1 byteC (base ++ (t.model.rules[i].sets.take y.1).flatMap (setL t.model.vars)), .cells bt 29 [.d (varsD t.model.vars), .d (rulesD t.model.rules), .d (termsD t.props), .d (opsD t.formula)]]) (fun y => y.1 ≤ t.model.rules[i].sets.length) (fun y => t.model.rules[i].sets.length - y.1) (0, v_) (Nat.zero_le _) (VS.take (by dsimp only; rw [show base ++ (t.model.rules[i].sets.take 0).flatMap (setL t.model.vars) = base by simp]; exact takedD) ?_) ?_
   · exact leD
   rintro ⟨k, q⟩ hk0
   dsimp only at hk0 ⊢
   by_cases hk : k < t.model.rules[i].sets.length
   · have hm2 := List.getElem_mem hk
     obtain ⟨s1, s2, s3⟩ := g.sets _ hmem _ hm2
     have hs2 := flat_take_len (setL t.model.vars) t.model.rules[i].sets k
     have hsz : (t.model.rules[i].sets.flatMap (setL t.model.vars)).length ≤ 80000 := by
      have h0 := flat_one_len (ruleL t.model.vars) t.model.rules i hi
      rw [hR, ruleL_eq] at h0
      simp only [List.length_append] at h0
      omega
     have hw2 := words t.model t.model.rules[i].sets[k].val 0 g.names s3.ops (by omega) s3.few s3.pos
     have hwl2 := term_len g.names (np := 0) (by omega) t.model.rules[i].sets[k].val s3.ops
     have hlt : t.model.rules[i].sets[k].var.toNat < t.model.vars.length := by omega
     have hn := name_len (g.names _ (List.getElem_mem hlt))
     have sf := s3.few
     have e2 := flat_at (setL t.model.vars) t.model.rules[i].sets k hk
     generalize (t.model.rules[i].sets.take k).flatMap (setL t.model.vars) = z at e2 hs2 ⊢
     rw [setL_eq hlt] at e2
     generalize termL t.model.vars t.model.rules[i].sets[k].val = w2 at e2 hw2 hwl2
     have e3 : base ++ (t.model.rules[i].sets.take (k + 1)).flatMap (setL t.model.vars) = (base ++ z) ++ (([115, 101, 116, 32] ++ t.model.vars[t.model.rules[i].sets[k].var.toNat].name.data.toList) ++ (w2 ++ [10])) := by
      rw [e2]; simp [setW]
     have hb2 : (base ++ z).length + (([115, 101, 116, 32] ++ t.model.vars[t.model.rules[i].sets[k].var.toNat].name.data.toList) ++ (w2 ++ [10])).length ≤ 140737488355328 := by simp only [List.length_append, List.length_cons, List.length_nil]; omega
     all_goals haveI fA_ : FlagA := ⟨⟩
     all_goals haveI fS_ : StopAt 0 := ⟨⟩
     repeat' (first
      | refine ca cal_words (hw2) ?_
      | refine caq cal_words (hw2) ?_
      | refine cag cal_WriteString (WriteStringS GP b q (base ++ z) (([115, 101, 116, 32] ++ t.model.vars[t.model.rules[i].sets[k].var.toNat].name.data.toList) ++ (w2 ++ [10])) hb2) ?_
      | ((with_reducible apply jp); (focus ((with_reducible apply pu_catS); rfl; rfl; (focus exact bndD))); (focus rfl))
      | ((with_reducible apply jqp); (focus ((with_reducible apply pu_catS); rfl; rfl; (focus exact bndD))); (focus rfl))
      | exact True.intro | refine stp ?_ | refine two ?_ ?_ | refine allc fun c_ => ?_
      | (refine imp fun hc => ?_) <;> try exact cx hc
      | refine all fun v_ => ?_)
     all_goals clear fA_ fS_
     refine ⟨J_region_tail mixed (by (repeat (with_reducible apply len_cons)); exact len_nil) (by decide +kernel) ?_⟩
     repeat' (first
      | refine ca cal_words (hw2) ?_
      | refine caq cal_words (hw2) ?_
      | refine cag cal_WriteString (WriteStringS GP b q (base ++ z) (([115, 101, 116, 32] ++ t.model.vars[t.model.rules[i].sets[k].var.toNat].name.data.toList) ++ (w2 ++ [10])) hb2) ?_
      | ((with_reducible apply jp); (focus ((with_reducible apply pu_catS); rfl; rfl; (focus exact bndD))); (focus rfl))
      | ((with_reducible apply jqp); (focus ((with_reducible apply pu_catS); rfl; rfl; (focus exact bndD))); (focus rfl))
      | exact True.intro | refine stpA ?_ | refine two ?_ ?_
      | (refine imp fun hc => ?_) <;> try exact cx hc
      | refine all fun v_ => ?_)
     refine ⟨(k + 1, v_), by dsimp only; omega, by dsimp only; omega, VS.take (by dsimp only; rw [e3]; exact takedD) ?_⟩
     exact leD
   obtain rfl : k = t.model.rules[i].sets.length := by omega
   rw [List.take_length, ← e']
   repeat' (first
    | exact True.intro | refine stpA ?_ | refine two ?_ ?_
    | (refine imp fun hc => ?_) <;> try exact cx hc
    | refine all fun v_ => ?_)
   refine ⟨(i + 1, true, q), by dsimp only; omega, by dsimp only; omega, VS.take (by dsimp only; exact takedD) ?_⟩
   exact leD
 obtain rfl : i = t.model.rules.length := by omega
 rw [List.take_length, hR]
 clear hi hi0
 -- the propositions
 generalize hQ : t.props.flatMap (propL t.model.vars) = Q at gl ⊢
 repeat' (first
  | exact True.intro | refine stpA ?_ | refine two ?_ ?_
  | (refine imp fun hc => ?_) <;> try exact cx hc
  | refine all fun v_ => ?_)
 refine J_loopV (X := Nat × Bool × Sl) (fun y => [(1, .val (.pointer (some ⟨bt, 0, none⟩))), (5, .val (selfP b)), (91, .d (termsD t.props)), (92, .int t.props.length), (93, .int y.1)]) (fun y => [.cells b 43 [.val (newP b y.2.1), .val y.2.2.v], rowE y.2.2.v 5 1 byteC ((V ++ R) ++ (t.props.take y.1).flatMap (propL t.model.vars)), .cells bt 29 [.d (varsD t.model.vars), .d (rulesD t.model.rules), .d (termsD t.props), .d (opsD t.formula)]]) (fun y => y.1 ≤ t.props.length) (fun y => t.props.length - y.1) (0, u, q) (Nat.zero_le _) (VS.take (by dsimp only; rw [show (V ++ R) ++ (t.props.take 0).flatMap (propL t.model.vars) = V ++ R by simp]; exact takedD) ?_) ?_
 · exact leD
 clear u q
 rintro ⟨i, u, q⟩ hi0
 dsimp only at hi0 ⊢
 by_cases hi : i < t.props.length
 · have hmem := List.getElem_mem hi
   have hs := flat_take_len (propL t.model.vars) t.props i
   rw [hQ] at hs
   have gp := g.props _ hmem
   have hw := words t.model t.props[i] 0 g.names gp.ops (by omega) gp.few gp.pos
   have hwl := term_len g.names (np := 0) (by omega) t.props[i] gp.ops
   have gf := gp.few
   have e := flat_at (propL t.model.vars) t.props i hi
   generalize (t.props.take i).flatMap (propL t.model.vars) = s at e hs ⊢
   rw [propL_eq] at e
   generalize termL t.model.vars t.props[i] = w at e hw hwl
   have e' : (V ++ R) ++ (t.props.take (i + 1)).flatMap (propL t.model.vars) = ((V ++ R) ++ s) ++ ([112, 114, 111, 112] ++ (w ++ [10])) := by
    rw [e]; simp [propW]
   have hb1 : ((V ++ R) ++ s).length + ([112, 114, 111, 112] ++ (w ++ [10])).length ≤ 140737488355328 := by simp only [List.length_append, List.length_cons, List.length_nil]; omega
   repeat' (first
    | refine ca cal_words (hw) ?_
    | refine cag cal_WriteString (WriteString GP b u q ((V ++ R) ++ s) ([112, 114, 111, 112] ++ (w ++ [10])) hb1) ?_
    | exact True.intro | refine stpA ?_ | refine two ?_ ?_
    | (refine imp fun hc => ?_) <;> try exact cx hc
    | refine all fun v_ => ?_)
   refine ⟨(i + 1, true, v_), by dsimp only; omega, by dsimp only; omega, VS.take (by dsimp only; rw [e']; exact takedD) ?_⟩
   exact leD
 obtain rfl : i = t.props.length := by omega
 rw [List.take_length, hQ]
 clear hi hi0
 -- the formula
 have hw := words t.model t.formula t.props.length g.names g.form.ops (by omega) g.form.few g.form.pos
 have hwl := term_len g.names (np := (t.props.length : Int)) (by omega) t.formula g.form.ops
 have gf := g.form.few
 rw [checkL_eq] at gl ⊢
 generalize termL t.model.vars t.formula = w at gl hw hwl ⊢
 have hb1 : ((V ++ R) ++ Q).length + ([99, 104, 101, 99, 107] ++ (w ++ [10])).length ≤ 140737488355328 := by simp only [List.length_append, List.length_cons, List.length_nil]; omega
 have hb2 : 0 < (((V ++ R) ++ Q) ++ ([99, 104, 101, 99, 107] ++ (w ++ [10]))).length := by simp only [List.length_append, List.length_cons, List.length_nil]; omega
 have hb3 : (((V ++ R) ++ Q) ++ ([99, 104, 101, 99, 107] ++ (w ++ [10]))).length ≤ 140737488355328 := by rw [List.length_append]; exact hb1
 repeat' (first
  | refine ca cal_words (hw) ?_
  | refine cag cal_WriteString (WriteString GP b u q ((V ++ R) ++ Q) ([99, 104, 101, 99, 107] ++ (w ++ [10])) hb1) ?_
  | refine cag cal_String (StringS GP b v_ (((V ++ R) ++ Q) ++ ([99, 104, 101, 99, 107] ++ (w ++ [10]))) hb2 hb3) ?_
  | exact True.intro | refine stpA ?_ | refine two ?_ ?_
  | (refine imp fun hc => ?_) <;> try exact cx hc
  | refine all fun v_ => ?_)
 refine retv (VS.drop (List.nil_sublist _)) ?_
 ((with_reducible apply rq2); rfl; rfl; rfl)
 exact ret_eq (by simp [checkW])
open Go Go.Av Go.Sp Go.ChangeShapes Go.WideShapes Go.ChangeAt Go.RowKit

abbrev laidRow := Rows.sheetShowsRow
theorem ownKn : ownKnob Tryd.prog.godebug = none := by kernel_rfl
theorem laidOutAll : laidOutB Tryd.prog = true := by kernel_rfl
def Reads1 (P : Program) (w : World) (n : _root_.String) (d : DataW Unit) : Prop :=
 ∃ g t cs fuel p, P.globalNamed n = some g ∧ (P.globals[g]?).map (·.type) = some t ∧ w.var? P n = some cs ∧ DataW.trod (fun _ => ()) P w 0 (fun _ => true) false fuel t cs.toList = some (d, p)
theorem reads_all {P : Program} {w : World} : ∀ {l : List (_root_.String × DataW Unit)} {ps : List MemPlace}, DataW.LaidVars P w l ps → ∀ n d, (n, d) ∈ l → Reads1 P w n d
 | [], _, _, _, _, hm => by cases hm
 | (n', d') :: r, ps, h, n, d, hm => by
   obtain ⟨g, t, cs, fuel, p, q, h1, h2, h3, h4, h5, _⟩ := h
   rcases List.mem_cons.1 hm with e | e
   · cases e
     exact ⟨g, t, cs, fuel, p, h1, h2, h3, h4⟩
   · exact reads_all h5 n d e
theorem reads1 {W : World} (h : laidMetH Tryd.prog laidRow.laid W) {n : _root_.String} {d : DataW Unit} (hm : (n, d) ∈ laidRow.laid) : Reads1 Tryd.prog W n d := by
 rw [MakeChecks.laidMetH_plain _ _ _ (by kernel_rfl)] at h
 obtain ⟨_, hv, _⟩ := h
 exact reads_all hv n d hm
theorem strs_of_tab {P : Program} {w : World} {fuel : Nat} {t e : TypeId} {n : Nat} {cs : List Value} {ls : List (List UInt8)} {p : List MemPlace} (ht : P.underlying t = some (.array n e)) (he : P.underlying e = some .string) (hce : P.cellsOf e = 1)
 (h : DataW.trod (fun _ => ()) P w 0 (fun _ => true) false fuel t cs = some (.agg (ls.map fun l => .lit (.string l)), p)) : ∀ (i : Nat) (l : List UInt8), ls[i]? = some l → cs[i]? = some (.string (tx l)) := by
 cases fuel with
 | zero => simp [DataW.trod] at h
 | succ fuel =>
   simp only [DataW.trod, ht, hce, Nat.mul_one] at h
   split at h
   · obtain ⟨xs, hm, hx⟩ := Option.map_eq_some_iff.1 h
     have hxs : xs.map (·.1) = ls.map fun l => (DataW.lit (.string l) : DataW Unit) := by
      have := congrArg Prod.fst hx
      simpa using this
     have hxl : xs.length = n := by simpa using Lib.mapM_length hm
     have hzl : ls.length = n := by
      have := congrArg List.length hxs
      simp at this
      omega
     intro i l hl
     have hi : i < n := by rw [← hzl]; exact (List.getElem?_eq_some_iff.1 hl).1
     obtain ⟨b, hb, hf⟩ := Lib.mapM_at hm i i (by simp [hi])
     obtain ⟨s, hc, rfl, _⟩ := DataW.trod_string he hf
     have h1 : cs[i]? = some (.string s) := by
      have := congrArg (·[0]?) hc
      simpa [List.getElem?_take, List.getElem?_drop] using this
     have h2 : (xs.map (·.1))[i]? = some (DataW.lit (.string s.data.toList) : DataW Unit) := by simp [hb]
     rw [hxs, List.getElem?_map, hl] at h2
     simp only [Option.map_some, Option.some.injEq, DataW.lit.injEq, Lit.string.injEq] at h2
     rw [h1, h2, tx_list]
   · cases h
theorem heap_of_var {P : Program} {w : World} {n : _root_.String} {g : Nat} {cs : Array Value} (hg : P.globalNamed n = some g) (h : w.var? P n = some cs) : ∃ t fr, w.heap[g]? = some (.cells cs t fr) := by
 unfold World.var? at h
 rw [hg, Option.bind_some] at h
 split at h
 · rename_i c t fr e
   cases h
   exact ⟨t, fr, e⟩
 · cases h
theorem g_parts : Tryd.prog.globalNamed "foretell/polish.parts" = some 2 := by kernel_rfl
theorem gt_parts : (Tryd.prog.globals[2]?).map (·.type) = some 112 := by kernel_rfl
theorem g_marks : Tryd.prog.globalNamed "foretell/sheet.marks" = some 0 := by kernel_rfl
theorem gt_marks : (Tryd.prog.globals[0]?).map (·.type) = some 67 := by kernel_rfl
theorem g_pow : Tryd.prog.globalNamed "internal/strconv.uint64pow10" = some 1 := by kernel_rfl
theorem gt_pow : (Tryd.prog.globals[1]?).map (·.type) = some 106 := by kernel_rfl
def partsZ : List Int := [-1, 0, 0, 2, 2, 2, 2, 2, 2, 2, 1, 0, 0, 0, 1, 2, 2, 1, 1]
theorem heap_parts {W : World} (h : laidMetH Tryd.prog laidRow.laid W) : ∃ t fr, W.heap[2]? = some (.cells (partsZ.map fun z => Value.int .i64 z).toArray t fr) := by
 obtain ⟨g, t, cs, fuel, p, h1, h2, h3, h4⟩ := reads1 h (n := "foretell/polish.parts") (d := Rows.laid_foretell_polish_parts) (by ((repeat (first | exact List.mem_cons_self | apply List.mem_cons_of_mem)); first | done | fail))
 obtain rfl := Option.some.inj (g_parts.symm.trans h1)
 obtain rfl := Option.some.inj (gt_parts.symm.trans h2)
 rw [show (Rows.laid_foretell_polish_parts : DataW Unit) = Lib.tabData .i64 partsZ by kernel_rfl] at h4
 have e := Lib.cells_of_tab Tryd.underlying112 Tryd.underlying3 (by kernel_rfl) (by kernel_rfl) h4
 obtain ⟨t', fr, h5⟩ := heap_of_var g_parts h3
 exact ⟨t', fr, by rw [h5, ← e]⟩
theorem heap_pow {W : World} (h : laidMetH Tryd.prog laidRow.laid W) : ∃ t fr, W.heap[1]? = some (.cells (Lib.pow10Tab.map fun z => Value.int .u64 z).toArray t fr) := by
 obtain ⟨g, t, cs, fuel, p, h1, h2, h3, h4⟩ := reads1 h (n := "internal/strconv.uint64pow10") (d := Rows.laid_internal_strconv_uint64pow10) (by ((repeat (first | exact List.mem_cons_self | apply List.mem_cons_of_mem)); first | done | fail))
 obtain rfl := Option.some.inj (g_pow.symm.trans h1)
 obtain rfl := Option.some.inj (gt_pow.symm.trans h2)
 rw [show (Rows.laid_internal_strconv_uint64pow10 : DataW Unit) = Lib.tabData .u64 Lib.pow10Tab by kernel_rfl] at h4
 have e := Lib.cells_of_tab Tryd.underlying106 Tryd.underlying90 (by kernel_rfl) (by kernel_rfl) h4
 obtain ⟨t', fr, h5⟩ := heap_of_var g_pow h3
 exact ⟨t', fr, by rw [h5, ← e]⟩
theorem heap_marks {W : World} (h : laidMetH Tryd.prog laidRow.laid W) : ∃ cs t fr, W.heap[0]? = some (.cells cs t fr) ∧ ∀ (i : Nat) l, marksL[i]? = some l → cs[i]? = some (.string (tx l)) := by
 obtain ⟨g, t, cs, fuel, p, h1, h2, h3, h4⟩ := reads1 h (n := "foretell/sheet.marks") (d := Rows.laid_foretell_sheet_marks) (by ((repeat (first | exact List.mem_cons_self | apply List.mem_cons_of_mem)); first | done | fail))
 obtain rfl := Option.some.inj (g_marks.symm.trans h1)
 obtain rfl := Option.some.inj (gt_marks.symm.trans h2)
 rw [show (Rows.laid_foretell_sheet_marks : DataW Unit) = .agg (marksL.map fun l => .lit (.string l)) by kernel_rfl] at h4
 have e := strs_of_tab Tryd.underlying67 Tryd.underlying9 (by kernel_rfl) h4
 obtain ⟨t', fr, h5⟩ := heap_of_var g_marks h3
 exact ⟨cs, t', fr, h5, fun i l hl => by have := e i l hl; simpa using this⟩
theorem pd_cells {w : World} {g : Nat} {cs : Array Value} {t : TypeId} {fr : Nat × Nat} {ds : List D} (h : w.heap[g]? = some (.cells cs t fr)) (hd : ∀ (u : Nat) x, ds[u]? = some x → ∃ c, cs[u]? = some c ∧ Rel w (fun b => b < w.heap.size) x c) : PD w (fun b => b < w.heap.size) ds ⟨g, 0, none⟩ :=
 ⟨(Array.getElem?_eq_some_iff.1 h).1, fun u x hx => by
   obtain ⟨c, h1, h2⟩ := hd u x hx
   exact ⟨c, by rw [Addr.add_lit, Nat.zero_add, cell_of_row w g u cs t fr h]; exact h1, h2⟩⟩
theorem globPD1 {W : World} (h : laidMetH Tryd.prog laidRow.laid W) : ∀ q ∈ GP0 ++ GP1, PD W (fun b => b < W.heap.size) q.2 ⟨q.1, 0, none⟩ := by
 intro q hq
 rcases List.mem_append.1 hq with hq | hq
 · obtain rfl : q = (2, partsT) := by simpa [GP0] using hq
   obtain ⟨t, fr, h1⟩ := heap_parts h
   refine pd_cells h1 fun u x hx => ?_
   have : partsT = partsZ.map fun n => D.i .i64 n := rfl
   rw [this, List.getElem?_map] at hx
   cases hz : partsZ[u]? with
   | none => rw [hz] at hx; cases hx
   | some z =>
     rw [hz] at hx
     cases hx
     exact ⟨.int .i64 z, by simp [hz], .i _ _⟩
 · simp only [GP1, List.mem_cons, List.not_mem_nil, or_false] at hq
   rcases hq with rfl | rfl
   · obtain ⟨cs, t, fr, h1, h2⟩ := heap_marks h
     refine pd_cells h1 fun u x hx => ?_
     simp only [marksT, List.getElem?_map] at hx
     cases hz : marksL[u]? with
     | none => rw [hz] at hx; cases hx
     | some l =>
       rw [hz] at hx
       cases hx
       exact ⟨.string (tx l), h2 u l hz, .s _⟩
   · obtain ⟨t, fr, h1⟩ := heap_pow h
     refine pd_cells h1 fun u x hx => ?_
     cases u with
     | succ u => simp [powT] at hx
     | zero =>
       simp only [powT, List.getElem?_cons_zero, Option.some.injEq] at hx
       subst hx
       exact ⟨.int .u64 1, by kernel_rfl, .sm _ _ _ _ (Array.getElem?_eq_some_iff.1 h1).1 h1 ⟨_, _, _, rfl⟩ ⟨rfl, t, fr, rfl⟩ rfl⟩
theorem globPD {W : World} (h : laidMetH Tryd.prog laidRow.laid W) : ∀ q ∈ GP, PD W (fun b => b < W.heap.size) q.2 ⟨q.1, 0, none⟩ := fun q hq => globPD1 h q (by simpa [GP, GP2] using hq)
def valsOf : Nat → DataW Unit → List Value
 | n + 1, .agg l => l.flatMap (valsOf n)
 | _, .lit (.int k z) => [.int k z]
 | _, .lit (.string bs) => [.string ⟨bs.toArray⟩]
 | _, _ => []
def layTab (h : Array Obj) (g : Nat) (d : DataW Unit) : Array Obj := h.modify g fun
 | .cells _ t frozen => .cells (valsOf 3 d).toArray t frozen
 | o => o
noncomputable def laidWorld (os : Os) : World :=
  { World.holding Tryd.prog os ⟨#[], #[], []⟩ with heap := layTab (layTab (layTab (layTab (layTab (World.holding Tryd.prog os ⟨#[], #[], []⟩).heap 2 Rows.laid_foretell_polish_parts) 0 Rows.laid_foretell_sheet_marks) 1 Rows.laid_internal_strconv_uint64pow10) 3 Rows.laid_math_bits_deBruijn32tab) 4 Rows.laid_math_bits_deBruijn64tab }
end Go.Proofs.YtajnpfgelpkijaaDoor
