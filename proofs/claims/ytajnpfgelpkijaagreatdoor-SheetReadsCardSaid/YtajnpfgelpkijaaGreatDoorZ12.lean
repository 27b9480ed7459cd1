/- A bundle of this claim's own texts: R2 E25 E8 E9 E26 E24 E27. -/
import Derived.Laws.Cover3
import Derived.RangeFuncNested
import Derived.RangeFuncCalls
import Derived.RangeFuncLeaves
import Derived.OrdersIn
import Derived.Test.YtajnpfgelpkijaaGreatDoorZ1
import Derived.Test.YtajnpfgelpkijaaGreatDoorZ2
import Derived.Test.YtajnpfgelpkijaaGreatDoorZ6
import Derived.Test.YtajnpfgelpkijaaGreatDoorZ11
set_option linter.unusedVariables false
set_option linter.unusedSimpArgs false
set_option maxRecDepth 100000
set_option maxHeartbeats 4000000
namespace Go.Av
open Go
theorem pu_byte_string {P : Program} {G : List (Nat × List D)} {ρ : Env} {h : H} {dst : Option Tmp} {ty : TypeId} {pos : String} {after : Array Edge} {g : Option (Nat × Bool)} {S T e : TypeId} {x : Operand} {b : UInt8} (hx : evO ρ x = some (.d (.l 1 1 [byteC b]))) (hS : P.underlying S = some (.slice e)) (he : P.underlying e = some (.int .u8)) (hT : P.underlying T = some .string) : Pure P G ⟨dst, .convert S T x, ty, pos, after, g⟩ ρ h (.val (.string (Go.Sp.tx [b]))) :=
 pu_bytes_string (l := [b]) hx hS he hT
end Go.Av
namespace Go.Proofs.YtajnpfgelpkijaaGreatDoor
open Go Go.Av Go.Sp
theorem cal_Itoa : Cal Tryz.prog 29 := Cal.of Tryz.func29 (by kernel_rfl) (by kernel_rfl)
theorem cal_Dec : Cal Tryz.prog 43 := Cal.of Tryz.func43 (by kernel_rfl) (by kernel_rfl)
theorem cal_markOf : Cal Tryz.prog 79 := Cal.of Tryz.func79 (by kernel_rfl) (by kernel_rfl)
theorem gPow : Tryz.prog.globalNamed "internal/strconv.uint64pow10" = some 4 := by kernel_rfl
theorem Itoa (n : Int) (h0 : -9223372036854775808 ≤ n) (h1 : n ≤ 9223372036854775807) : ACr Tryz.prog GP 29 [.int n] (.val (.string (tx (Lib.itoa n)))) := by
 refine ACr_leave (us := [.int .i64 n]) fun w I hg => ?_
 have htab : Lib.TabIs Tryz.prog w "internal/strconv.uint64pow10" .u64 Lib.pow10Tab := by
  obtain ⟨c, _, hr⟩ := (hg _ GP_pow).2 0 _ rfl
  cases hr with
  | sm p b o v hI hw hc hq h1 =>
    obtain ⟨rfl, t, fr, rfl⟩ := hq
    unfold Lib.TabIs World.var?
    rw [gPow, Option.bind_some, hw]
 refine (Any.strconv_Itoa Tryz.laysM171 n h0 h1 w htab).mono ?_
 rintro e w' ⟨rfl, k, os, rfl⟩
 exact ⟨rfl, below_drew_grow w k os⟩
theorem dec_u8 {n : Nat} (h : n < 10) : UInt8.ofNat (48 + n) = UInt8.ofInt (48 + (n : Int)) := by
 have : n = 0 ∨ n = 1 ∨ n = 2 ∨ n = 3 ∨ n = 4 ∨ n = 5 ∨ n = 6 ∨ n = 7 ∨ n = 8 ∨ n = 9 := by omega
 rcases this with rfl | rfl | rfl | rfl | rfl | rfl | rfl | rfl | rfl | rfl <;> rfl
theorem DecN (G : List (Nat × List D)) : ∀ n : Nat, n ≤ 2000000000 → ACr Tryz.prog G 43 [.int n] (.val (.string (tx (Lib.decDigits n)))) := by
 intro n
 induction n using Nat.strongRecOn with
 | _ n ih0 =>
   intro hn
   refine AC_ofV (ts := [2]) Tryz.f43.ntmps Tryz.func43 rfl rfl rfl (by simp [Tryz.ntmps43]) fun W I => ?_
   by_cases h10 : n < 10
   · repeat' (first
      | refine ca cal_Dec (ih) ?_
      | ((with_reducible apply jp); (focus ((with_reducible apply pu_byte_string); rfl; rfl; rfl; rfl)); (focus rfl))
      | exact True.intro | refine stpH ?_ | refine two ?_ ?_ | refine allc fun c_ => ?_
      | (refine imp fun hc => ?_) <;> try exact cx1 hc
      | refine all fun v_ => ?_)
     refine retv (VS.drop (List.nil_sublist _)) ?_
     ((with_reducible apply rq1); rfl; rfl)
     exact ret_eq (by rw [dec_small h10, dec_u8 h10])
   have ih : ACr Tryz.prog G 43 [.int ((n : Int) / 10)] (.val (.string (tx (Lib.decDigits (n / 10))))) := ih0 (n / 10) (by omega) (by omega)
   have hl := dec_len (n / 10) 11 (by omega) (by omega)
   repeat' (first
    | refine ca cal_Dec (ih) ?_
    | ((with_reducible apply jp); (focus ((with_reducible apply pu_byte_string); rfl; rfl; rfl; rfl)); (focus rfl))
    | exact True.intro | refine stpH ?_ | refine two ?_ ?_ | refine allc fun c_ => ?_
    | (refine imp fun hc => ?_) <;> try exact cx1 hc
    | refine all fun v_ => ?_)
   all_goals
    refine retv (VS.drop (List.nil_sublist _)) ?_
    ((with_reducible apply rq1); rfl; rfl)
    exact ret_eq (by rw [dec_big h10, dec_u8 (n := n % 10) (by omega)]; rfl)
theorem DecI (G : List (Nat × List D)) (n : Int) (h0 : -2000000000 ≤ n) (h1 : n ≤ 2000000000) : ACr Tryz.prog G 43 [.int n] (.val (.string (tx (Lib.itoa n)))) := by
 by_cases hn : n < 0
 · have ih := DecN G n.natAbs (by omega)
   have e : ((n.natAbs : Nat) : Int) = -n := by omega
   rw [e] at ih
   have hi : Lib.itoa n = 45 :: Lib.decDigits n.natAbs := by
    rw [itoa_neg hn]; unfold Lib.itoa; rw [if_neg (by omega)]; congr 2; omega
   have hl := dec_len n.natAbs 11 (by omega) (by omega)
   rw [hi]
   refine AC_ofV (ts := [2]) Tryz.f43.ntmps Tryz.func43 rfl rfl rfl (by simp [Tryz.ntmps43]) fun W I => ?_
   repeat' (first
    | refine ca cal_Dec (ih) ?_
    | ((with_reducible apply jp); (focus ((with_reducible apply pu_byte_string); rfl; rfl; rfl; rfl)); (focus rfl))
    | exact True.intro | refine stpH ?_ | refine two ?_ ?_ | refine allc fun c_ => ?_
    | (refine imp fun hc => ?_) <;> try exact cx1 hc
    | refine all fun v_ => ?_)
   refine retv (VS.drop (List.nil_sublist _)) ?_
   ((with_reducible apply rq1); rfl; rfl)
   exact ret_eq rfl
 · have ih := DecN G n.toNat (by omega)
   have e : ((n.toNat : Nat) : Int) = n := by omega
   rw [e] at ih
   have hi : Lib.itoa n = Lib.decDigits n.toNat := by unfold Lib.itoa; rw [if_neg hn]
   rw [hi]
   exact ih
theorem markL_none {k : Int} (h3 : k ≠ 3) (h4 : k ≠ 4) (h5 : k ≠ 5) (h6 : k ≠ 6) (h7 : k ≠ 7) (h8 : k ≠ 8) (h9 : k ≠ 9) (h10 : k ≠ 10) (h11 : k ≠ 11) (h12 : k ≠ 12) (h14 : k ≠ 14) (h15 : k ≠ 15) (h16 : k ≠ 16) (h17 : k ≠ 17) (h18 : k ≠ 18) : markL k = [] := by
 unfold markL
 by_cases h : k.toNat ≤ 18
 · have : k.toNat = 0 ∨ k.toNat = 1 ∨ k.toNat = 2 ∨ k.toNat = 13 := by omega
   rcases this with e | e | e | e <;> rw [e] <;> rfl
 · rw [List.getElem?_eq_none (by show 19 ≤ _; omega)]; rfl
theorem markOf (G : List (Nat × List D)) (k : Int) : ACr Tryz.prog G 79 [.int k] (.val (.string (tx (markL k)))) := by
 refine AC_ofV (ts := [2]) Tryz.f79.ntmps Tryz.func79 rfl rfl rfl (by simp [Tryz.ntmps79]) fun W I => ?_
 repeat' (first
  | exact True.intro
  | refine stp ?_
  | refine two ?_ ?_
  | (refine imp fun hc => ?_) <;> try exact cx hc
  | refine all fun v_ => ?_)
 all_goals
  refine retv (VS.drop (List.nil_sublist _)) ?_
  ((with_reducible apply rq1); rfl; rfl)
  refine ret_eq ?_
  first
  | (subst_vars; rfl)
  | (rw [markL_none (by assumption) (by assumption) (by assumption) (by assumption) (by assumption) (by assumption) (by assumption) (by assumption) (by assumption) (by assumption) (by assumption) (by assumption) (by assumption) (by assumption) (by assumption)])
end Go.Proofs.YtajnpfgelpkijaaGreatDoor
namespace Go.Av
open Go
section
variable {P : Program} {G : List (Nat × List D)} {ρ : Env} {h : H} {dst : Option Tmp} {ty : TypeId} {pos : String} {after : Array Edge} {g : Option (Nat × Bool)}
theorem pu_load_glob {T : TypeId} {x : Operand} {gl off : Nat} {c : D} {cs : List D} (hT : isAggB P T = some false) (hx : evO ρ x = some (.val (.pointer (some ⟨gl, off, none⟩)))) (hG : (gl, cs) ∈ G) (hc : cs[off]? = some c) : Pure P G ⟨dst, .load T x, ty, pos, after, g⟩ ρ h c.av := by
 intro k I n a w hGc hok hs
 have e1 := rel_val (hs.ev x) (ev_of_evO hx)
 have hpd := hok.glob (gl, cs) (by rw [hGc]; exact hG)
 obtain ⟨u, hu, hr⟩ := hpd.2 off c hc
 refine ⟨u, D.av_rel hr, fun w' hw' => ?_⟩
 have hcell : w'.cell? ⟨gl, off, none⟩ = some u := by
  have hu' : w.cell? ⟨gl, off, none⟩ = some u := by
   have : (⟨gl, 0, none⟩ : Addr).add off = ⟨gl, off, none⟩ := by rw [Addr.add_lit, Nat.zero_add]
   rw [← this]; exact hu
  exact (World.cell?_of_block (w := w) (hw'.imm gl hpd.1)).trans hu'
 simp [execOp, e1, Instr.loadAt, Instr.sureAddr, loadVar, run_isAgg hT, run_load, hcell]
theorem pu_catS {T T' : TypeId} {x y : Operand} {a : List UInt8} {t : ByteArray} (hx : evO ρ x = some (.val (.string (Go.Sp.tx a)))) (hy : evO ρ y = some (.val (.string t))) (hb : a.length + t.data.toList.length ≤ 9223372036854775807) : Pure P G ⟨dst, .binOp .add T x y T', ty, pos, after, g⟩ ρ h (.val (.string (Go.Sp.tx (a ++ t.data.toList)))) := by
 rw [← Go.Sp.app_tx]
 exact pu_cat hx hy (by rw [Array.length_toList] at hb; exact hb)
theorem pu_load_globA {T : TypeId} {gl : Nat} {cs : List D} {z : Value} {sz eb : Nat} (hT : isAggB P T = some true) (hE : El P T z sz eb) (hG : (gl, cs) ∈ G) (hn : sz = cs.length) : Pure P G ⟨dst, .load T (.global gl), ty, pos, after, g⟩ ρ h (.agg (cs.map D.av)) := by
 intro k I n a w hGc hok hs
 obtain ⟨i, hi, _, hsz, _⟩ := hE.get
 have hpd := hok.glob (gl, cs) (by rw [hGc]; exact hG)
 have e0 : a.eval (.global gl) = .pointer (some ⟨gl, 0, none⟩) := rfl
 let f : Nat → Value := fun u => (w.cell? ((⟨gl, 0, none⟩ : Addr).add u)).getD undef
 have hf : ∀ u x, cs[u]? = some x → w.cell? ((⟨gl, 0, none⟩ : Addr).add u) = some (f u) ∧ Rel w I x (f u) := fun u x hux => by
  obtain ⟨v, h1, h2⟩ := hpd.2 u x hux
  simp only [f, h1, Option.getD_some]
  exact ⟨trivial, h2⟩
 refine ⟨.agg ((List.range cs.length).map f).toArray, ⟨_, rfl, rels_av cs f fun u x hux => (hf u x hux).2⟩, fun w' hw' => ?_⟩
 have hload := run_loadCells (P := P) w' ⟨gl, 0, none⟩ cs.length f fun j hj => by
  rw [World.cell?_of_block (w := w)]
  · exact (hf j cs[j] (List.getElem?_eq_getElem hj)).1
  · rw [addr_block]; exact hw'.imm _ hpd.1
 simp [execOp, e0, Instr.loadAt, Instr.sureAddr, loadVar, run_isAgg hT, sizeOf, typeInfo, hi, hsz, hn, hload]
theorem pu_index_agg {T E : TypeId} {x y : Operand} {cs : List AV} {len n : Nat} {r : AV} {z : Value} {eb : Nat} (hx : evO ρ x = some (.agg cs)) (hy : evO ρ y = some (.int (n : Int))) (hT : P.underlying T = some (.array len E)) (hA : isAggB P E = some false) (hE : El P E z 1 eb) (hn : n < len) (hr : cs[n]? = some r) :
 Pure P G ⟨dst, .index T x y, ty, pos, after, g⟩ ρ h r :=
 pure_free fun w I _ a hs => by
  obtain ⟨i, hi, _, hsz, _⟩ := hE.get
  obtain ⟨vs, hv, hrel⟩ := rel_as (hs.ev x) (ev_of_evO hx)
  have e2 := rel_val (hs.ev y) (ev_of_evO hy)
  obtain ⟨v, h1, h2⟩ := AV.rels_get hrel n r hr
  refine ⟨v, h2, fun w' => ?_⟩
  have hn' : (n : Int) < (len : Int) := by omega
  have h3 : vs.toArray[n]? = some v := by simpa using h1
  simp [execOp, hv, e2, Instr.index, asIntOf, run_underlying hT, hn', part, run_isAgg hA, sizeOf, typeInfo, hi, hsz, h1]
  intro hle
  omega
theorem pu_build3 {T : TypeId} {x0 x1 x2 : Operand} {a b c : Int} (h0 : evO ρ x0 = some (.int a)) (h1 : evO ρ x1 = some (.int b)) (h2 : evO ρ x2 = some (.int c)) (hB : P.built T [(0, .int .i64 a), (1, .int .i64 b), (2, .int .i64 c)] = some #[.int .i64 a, .int .i64 b, .int .i64 c]) :
 Pure P G ⟨dst, .build T #[(0, x0), (1, x1), (2, x2)], ty, pos, after, g⟩ ρ h (.agg [.int a, .int b, .int c]) :=
 pure_free fun w I _ act hs => by
  have e0 := rel_val (hs.ev x0) (ev_of_evO h0)
  have e1 := rel_val (hs.ev x1) (ev_of_evO h1)
  have e2 := rel_val (hs.ev x2) (ev_of_evO h2)
  refine ⟨.agg #[.int .i64 a, .int .i64 b, .int .i64 c], ⟨[_, _, _], rfl, rfl, rfl, rfl, trivial⟩, fun w' => ?_⟩
  have hr := run_build (P := P) w' T #[(0, .int .i64 a), (1, .int .i64 b), (2, .int .i64 c)] _ hB
  simp [execOp, e0, e1, e2, hr]
end

open Go Go.Instr

section
variable {P : Program} {G : List (Nat × List D)} {ρ : Env} {h : H} {dst : Option Tmp} {ty : TypeId} {pos : String} {after : Array Edge} {g : Option (Nat × Bool)}
theorem pu_load_row_agg {α : Type} {f : α → List D} {xs : List α} {T E : TypeId} {x : Operand} {q : Sl} {j sz eb : Nat} {z : Value} (hT : isAggB P T = some true) (hE : El P T z sz eb) (hx : evO ρ x = some (.val (.pointer (some (q.at (j * sz)))))) (hm : rowE q.v E sz f xs ∈ h) (hsz : ∀ a, (f a).length = sz) (hj : j < xs.length) :
 Pure P G ⟨dst, .load T x, ty, pos, after, g⟩ ρ h (.agg ((f xs[j]).map D.av)) := by
 intro cx I m a w _ hok hs
 obtain ⟨i, hi, _, rfl, _⟩ := hE.get
 obtain ⟨gb, cap, cur, rfl, hg, hnc, hcm, hcs, hrel⟩ := Ent.row_form (hok.ent _ hm) (by omega)
 have e1 : a.eval x = .pointer (some ⟨gb, j * i.size, none⟩) := rel_val (hs.ev x) (ev_of_evO hx)
 have hle : (j + 1) * i.size ≤ xs.length * i.size := Nat.mul_le_mul_right _ hj
 rw [Nat.add_mul, Nat.one_mul] at hle
 have hcl : xs.length * i.size ≤ cur.toList.length := by
  have e : cur.toList.length = cap * i.size := hcs
  rw [e]; exact Nat.mul_le_mul_right _ hnc
 have hfl : ∀ l : List α, ((l.map f).flatten).length = l.length * i.size := fun l => by
  rw [flatten_length _ fun r hr => by obtain ⟨b, _, rfl⟩ := List.mem_map.1 hr; exact hsz b, List.length_map]
 have hsplit : (xs.map f).flatten = ((xs.take j).map f).flatten ++ (f xs[j] ++ ((xs.drop (j + 1)).map f).flatten) := by
  have e : xs = xs.take j ++ xs[j] :: xs.drop (j + 1) := by rw [← List.drop_eq_getElem_cons hj, List.take_append_drop]
  have e2 : ((xs.take j ++ xs[j] :: xs.drop (j + 1)).map f).flatten = (xs.map f).flatten := by rw [← e]
  rw [List.map_append, List.map_cons, List.flatten_append, List.flatten_cons] at e2
  exact e2.symm
 have htl : ((xs.take j).map f).flatten.length = j * i.size := by rw [hfl, List.length_take, Nat.min_eq_left (by omega)]
 have hl1 : ((((xs.map f).flatten.map D.av).drop (j * i.size)).take i.size) = (f xs[j]).map D.av := by
  rw [hsplit, List.map_append, List.map_append, List.drop_left' (by rw [List.length_map, htl]), List.take_left' (by rw [List.length_map, hsz])]
 have hr1 : ((cur.toList.take (xs.length * i.size)).drop (j * i.size)).take i.size = (cur.toList.drop (j * i.size)).take i.size := by
  rw [List.drop_take, List.take_take, Nat.min_eq_left (by omega)]
 have hrels := rels_take i.size (rels_drop (j * i.size) hrel)
 rw [hl1, hr1] at hrels
 refine ⟨.agg ((cur.toList.drop (j * i.size)).take i.size).toArray, ⟨_, rfl, hrels⟩, fun w' hw' => ?_⟩
 have hheap : w'.heap[gb]? = some (.cells cur E (0, 0)) := (hw'.own gb (mem_blks hm rfl)).trans hg
 have hload := run_loadCells_list (P := P) w' ⟨gb, j * i.size, none⟩ ((cur.toList.drop (j * i.size)).take i.size) fun u v hv => by
  rw [Addr.add_lit, cell_of_row w' gb (j * i.size + u) cur E (0, 0) hheap]
  rw [List.getElem?_take] at hv
  split at hv
  · rw [List.getElem?_drop] at hv; simpa using hv
  · cases hv
 have hln : ((cur.toList.drop (j * i.size)).take i.size).length = i.size := by
  rw [List.length_take, List.length_drop]; omega
 rw [hln] at hload
 simp [execOp, e1, Instr.loadAt, Instr.sureAddr, loadVar, run_isAgg hT, sizeOf, typeInfo, hi, hload]
end
theorem flat_setu {α : Type} {f : α → List D} {sz u : Nat} {r : AV} {a : α} (hsz : ∀ a, (f a).length = sz) (hu : u < sz) : ∀ (xs : List α) (j : Nat) (h : j < xs.length), (f a).map D.av = ((f xs[j]).map D.av).set u r → (((xs.map f).flatten).map D.av).set (j * sz + u) r = (((xs.set j a).map f).flatten).map D.av
 | [], j, h, _ => by simp at h
 | x :: xs, 0, _, e => by
   have el : ((f x).map D.av).length = sz := by rw [List.length_map, hsz]
   simp only [List.getElem_cons_zero] at e
   simp only [Nat.zero_mul, Nat.zero_add, List.map_cons, List.flatten_cons, List.map_append, List.set_cons_zero]
   rw [List.set_append_left _ _ (by omega), e]
 | x :: xs, j + 1, h, e => by
   have el : ((f x).map D.av).length = sz := by rw [List.length_map, hsz]
   have ih := flat_setu hsz hu xs j (by simpa using h) (by simpa using e)
   simp only [List.map_cons, List.flatten_cons, List.map_append, List.set_cons_succ]
   rw [← ih, List.set_append_right _ _ (by rw [el, Nat.add_mul]; omega)]
   congr 2
   rw [el, Nat.add_mul]; omega
section
variable {k : Kx} {Q : Exit → Env → H → Prop} {ρ : Env} {h h' : H} {ops : Array Oper} {l : List Oper} {ty : TypeId} {pos : String} {after : Array Edge}
theorem js_rowu {α : Type} {f : α → List D} {xs : List α} {a : α} {T E : TypeId} {x y : Operand} {q : Sl} {j u sz : Nat} {r : AV} {z : Value} {eb : Nat} (hx : evO ρ x = some (.val (.pointer (some (q.at (j * sz + u)))))) (hy : evO ρ y = some r) (hE : El k.P T z 1 eb) (hs : r.flat = true) (hsz : ∀ a, (f a).length = sz) (hu : u < sz) (hjl : j < xs.length)
 (hr : (f a).map D.av = ((f xs[j]).map D.av).set u r) (hup : Upd (rowE q.v E sz f xs) (rowE q.v E sz f (xs.set j a)) h h') (hj : JL k ops l Q ρ h') : JL k ops (⟨none, .store T x y, ty, pos, after, none⟩ :: l) Q ρ h := by
 obtain ⟨h1, h2, rfl, rfl⟩ := hup.split
 obtain ⟨e1, e2⟩ := flat_cl hs
 have hfl : ((((xs.map f).flatten).map D.av)).length = xs.length * sz := by
  rw [List.length_map, flatten_length _ (fun r hr => by obtain ⟨a, _, rfl⟩ := List.mem_map.1 hr; exact hsz a), List.length_map]
 have hle : (j + 1) * sz ≤ xs.length * sz := Nat.mul_le_mul_right _ hjl
 rw [Nat.add_mul] at hle
 refine JL_storeR (off := j * sz + u) (r := r) (ev_of_evO hx) (ev_of_evO hy) e2 hE (by rw [e1]; rfl) (by omega) ?_ ?_
 · rw [hfl, e1]; simp only [List.length_cons, List.length_nil]; omega
 · rw [e1, setAt_one _ _ _ (by rw [hfl]; omega), flat_setu hsz hu xs j hjl hr]
   unfold rowE at hj
   rwa [List.length_set] at hj
end
theorem Cvs.lastU {α : Type} {f : α → List D} {v : Value} {d : D} {pre post : List D} {a b : α} (xs : List α) (hv : v.oneCell' = true) (ha : f a = pre ++ .ve v hv :: post) (hb : (f b).map D.av = (pre.map D.av) ++ .d d :: (post.map D.av)) : Cvs v d ((((xs ++ [a]).map f).flatten).map D.av) ((((xs ++ [b]).map f).flatten).map D.av) := by
 have e1 : ((((xs ++ [a]).map f).flatten).map D.av) = (((xs.map f).flatten).map D.av ++ pre.map D.av) ++ .val v :: post.map D.av := by
  simp [ha, D.av]
 have e2 : ((((xs ++ [b]).map f).flatten).map D.av) = (((xs.map f).flatten).map D.av ++ pre.map D.av) ++ .d d :: post.map D.av := by
  simp only [List.map_append, List.map_cons, List.map_nil, List.flatten_append, List.flatten_cons, List.flatten_nil, List.append_nil, hb, List.append_assoc]
 rw [e1, e2]
 exact Cvs.mid _ _ _ _
open Go Go.RowKit
def JP (k : Kx) (x : Code) (Post : Exit → Act → World → Prop) (ρ : Env) (h : H) : Prop := ∀ I a w, Ok k.c I h w → SF k.n w I ρ a → a.defers = k.df → x.wp k.P Post a w
section
variable {k : Kx} {ρ ρ' : Env} {h h' : H} {Post : Exit → Act → World → Prop}
theorem JP_seq {x y : Code} {Q : Exit → Env → H → Prop} (hj : J k x (thenQ (fun ρ h => JP k y Post ρ h) Q) ρ h) (hq : ∀ e a w, lift k Q e a w → Post e a w) : JP k (.seq x y) Post ρ h := fun I a w h1 h2 h3 => by
 refine wp_seq (wp_mono (hj I a w h1 h2 h3) ?_)
 rintro e a w ⟨I, ρ, h, k1, k2, k3, k4⟩
 cases e with
 | normal => exact k4 I a w k1 k2 k3
 | _ => exact hq _ _ _ ⟨I, ρ, h, k1, k2, k3, k4⟩
theorem JP_two {x y : Code} (hj : JP k x (Exit.then (y.wp k.P Post) Post) ρ h) : JP k (.seq x y) Post ρ h := fun I a w h1 h2 h3 => wp_seq (hj I a w h1 h2 h3)
theorem JP_vs {x : Code} (v : VS ρ h ρ' h') (hj : JP k x Post ρ' h') : JP k x Post ρ h := fun I a w h1 h2 h3 => let ⟨I', k1, k2⟩ := v k.c I k.n a w h1 h2; hj I' a w k1 k2 h3
end
def Exact (ρ : Env) : Prop := ∀ t, (∃ v, get ρ t = .val v) ∨ get ρ t = .any
theorem Exact.nil : Exact [] := fun _ => .inr rfl
theorem Exact.cons {ρ : Env} {t : Nat} {v : Value} (h : Exact ρ) : Exact ((t, .val v) :: ρ) := fun u => by
 simp only [get]
 cases Nat.beq t u with
 | true => exact .inl ⟨v, rfl⟩
 | false => exact h u
theorem SF.exact {n : Nat} {w w' : World} {I I' : Nat → Prop} {ρ : Env} {a : Act} (f : SF n w I ρ a) (hx : Exact ρ) : SF n w' I' ρ a := ⟨f.1, fun t => by
 have := f.2 t
 rcases hx t with ⟨v, e⟩ | e
 · rw [e] at this ⊢; exact this
 · rw [e]; trivial⟩
theorem Ok.perm {c : Cx} {I : Nat → Prop} {h h' : H} {w : World} (k : Ok c I h w) (hp : h.Perm h') : ∃ I', Ok c I' h' w :=
 let ⟨I', k1, _⟩ := VS.perm (ρ := []) hp c I 0 { tmps := #[], defers := [] } w k ⟨rfl, fun _ => trivial⟩
 ⟨I', k1⟩
theorem Ok.putRaw {c : Cx} {I : Nat → Prop} {h1 h2 : H} {b : Nat} {o o' : Obj} {w : World} (k : Ok c I (h1 ++ .raw b o :: h2) w) : Ok c I (h1 ++ .raw b o' :: h2) (w.putObj b o') := by
 have hb : w.heap[b]? = some o := k.ent (.raw b o) (by simp)
 have hlt : b < w.heap.size := (Array.getElem?_eq_some_iff.1 hb).1
 exact (k.write (e := .raw b o) (e' := .raw b o') (b := b) (w' := w.putObj b o') rfl rfl rfl rfl rfl (by simp) (fun x hx => World.putObj_heap_other hx) (World.putObj_heap_same hlt)).1
abbrev YieldOk (P : Program) (c : Cx) (l : Nat) (v : Value) (h : H) (N : H → Prop) : Prop := ∀ I W, Ok c I h W → YieldAt Fence.wide 0 P l #[v] W fun e W' => e = .returned (.bool true) ∧ ∃ I' h', N h' ∧ Ok c I' h' W'
theorem J_yield {k : Kx} {Q : Exit → Env → H → Prop} {ρ : Env} {h : H} {N : H → Prop} {id : Nat} {l : Nat} {y x : Operand} {v : Value} {d1 d2 d3 d4 : Nat} {T1 T2 T3 T4 T5 T6 : TypeId} {p1 p2 p3 p4 : String} {a1 a2 a3 a4 : Array Edge}
 (hy0 : evO ρ y = some (.val (.func (.yield l) #[] #[]))) (hx : evO ρ x = some (.val v)) (hex : Exact ρ) (hy : YieldOk k.P k.c l v h N) (hd1 : Nat.blt d1 k.n = true) (hd2 : Nat.blt d2 k.n = true) (hd3 : Nat.blt d3 k.n = true) (hd4 : Nat.blt d4 k.n = true)
 (h12 : Nat.beq d1 d2 = false) (h1x : evO ((d1, .val (.func (.yield l) #[] #[])) :: ρ) x = some (.val v))
 (hq : ∀ h', N h' → Q .normal ((d4, .bool false) :: (d3, .bool true) :: (d2, .val v) :: (d1, .val (.func (.yield l) #[] #[])) :: ρ) h') :
 J k (.region id #[⟨some d1, .move y, T1, p1, a1, none⟩, ⟨some d2, .move x, T2, p2, a2, none⟩, ⟨some d3, .call { callee := .value (.tmp d1), args := #[.tmp d2], argTypes := #[T5] }, T3, p3, a3, none⟩, ⟨some d4, .unOp .not T6 (.tmp d3), T4, p4, a4, none⟩] false) Q ρ h := by
 intro I a w k1 k2 k3
 refine (wpIn_wide (n := 0)).1 (wpIn_region_lit (l := [_, _, _, _]) ?_)
 have e1 := rel_val (k2.ev y) (ev_of_evO hy0)
 have f1 : SF k.n w I ((d1, .val (.func (.yield l) #[] #[])) :: ρ) (a.put (some d1) (.func (.yield l) #[] #[])) := k2.put (fun t ht => by cases ht; exact blt hd1) (r := .val _) rfl
 have e2 := rel_val (f1.ev x) (ev_of_evO h1x)
 have f2 : SF k.n w I ((d2, .val v) :: (d1, .val (.func (.yield l) #[] #[])) :: ρ) ((a.put (some d1) (.func (.yield l) #[] #[])).put (some d2) v) := f1.put (fun t ht => by cases ht; exact blt hd2) (r := .val _) rfl
 have e3 := rel_val (f2.ev (.tmp d1)) (show ev _ (.tmp d1) = .val (.func (.yield l) #[] #[]) by
  have hb : Nat.beq d2 d1 = false := by
   cases hh : Nat.beq d2 d1 with
   | false => rfl
   | true => rw [Nat.eq_of_beq_eq_true hh] at h12; simp at h12
  simp only [ev, get, hb, cond_false]
  simp)
 have e4 := rel_val (f2.ev (.tmp d2)) (show ev _ (.tmp d2) = .val v by simp [ev, get])
 obtain ⟨fn, tmps, assign, body, hrun, hround⟩ := hy I w k1
 refine wpListIn_plain rfl fun K hK => ?_
 refine ⟨fun f hf => trivial, ?_⟩
 rw [show (Oper.semAt Fence.wide.round a.eval ⟨some d1, .move y, T1, p1, a1, none⟩).run k.P w = .ok (.value (.func (.yield l) #[] #[])) w by simp [Oper.semAt, Fence.wide, execOp, e1]]
 refine hK _ _ (wpListIn_plain rfl fun K hK => ⟨fun f hf => trivial, ?_⟩)
 rw [show (Oper.semAt Fence.wide.round (a.put (some d1) (.func (.yield l) #[] #[])).eval ⟨some d2, .move x, T2, p2, a2, none⟩).run k.P w = .ok (.value v) w by simp [Oper.semAt, Fence.wide, execOp, e2]]
 refine hK _ _ (wpListIn_plain rfl fun K hK => ⟨fun f hf => trivial, ?_⟩)
 rw [show (Oper.semAt Fence.wide.round ((a.put (some d1) (.func (.yield l) #[] #[])).put (some d2) v).eval ⟨some d3, .call { callee := .value (.tmp d1), args := #[.tmp d2], argTypes := #[T5] }, T3, p3, a3, none⟩).run k.P w = .ok (.round l fn tmps assign body) w by
  rw [show ∀ ρ o, Oper.semAt Fence.wide.round ρ o = execOp ρ o from fun _ _ => rfl]
  simp [execOp, resolve, invoke, Deferred.ofValue, e3, e4, hrun]]
 refine ⟨fun hd => (by cases hd), ?_⟩
 refine hround.mono ?_
 rintro e w' ⟨rfl, I', h', hn, k1'⟩
 have f3 : SF k.n w' I' ((d3, .bool true) :: (d2, .val v) :: (d1, .val (.func (.yield l) #[] #[])) :: ρ) ((((a.put (some d1) (.func (.yield l) #[] #[])).put (some d2) v)).put (some d3) (.bool true)) := (f2.exact hex.cons.cons).put (fun t ht => by cases ht; exact blt hd3) (r := .val _) rfl
 have e5 := rel_val (f3.ev (.tmp d3)) (show ev _ (.tmp d3) = .val (.bool true) by simp [ev, get])
 refine hK _ _ (wpListIn_plain rfl fun K hK => ⟨fun f hf => trivial, ?_⟩)
 rw [show (Oper.semAt Fence.wide.round ((((a.put (some d1) (.func (.yield l) #[] #[])).put (some d2) v)).put (some d3) (.bool true)).eval ⟨some d4, .unOp .not T6 (.tmp d3), T4, p4, a4, none⟩).run k.P w' = .ok (.value (.bool false)) w' by
  rw [show ∀ ρ o, Oper.semAt Fence.wide.round ρ o = execOp ρ o from fun _ _ => rfl]; simp [execOp, e5, Op.unary]]
 refine hK _ _ (wpListIn_nil ⟨I', _, h', k1', f3.put (fun t ht => by cases ht; exact blt hd4) (r := .val (.bool false)) rfl, ?_, hq h' hn⟩)
 rw [Act.defers_put, Act.defers_put, Act.defers_put, Act.defers_put]; exact k3
theorem JP_range {k : Kx} {Post : Exit → Act → World → Prop} {ρ : Env} {gf : Nat} {lb : Array Value} {g : Operand} {p q : Tmp} {assign body : Code} {hb : List UInt8 → Ent} {s : List UInt8} {Hs : List (List UInt8) → H → Prop} {h0 : H} {all : List (List UInt8)} {dt : List (List UInt8) → List UInt8 → List UInt8 → Prop}
 (hg : evO ρ g = some (.val (.func (.func gf) #[] lb))) (eg : ∀ args w, (callFunc gf args).run k.P w = .ok (.enter gf args) w) (hex : Exact ρ) (hp : p < k.n) (hq : q < k.n)
 (hit : ∀ (l : Nat) (F : List (List UInt8) → H → Prop), (∀ pre x rest h, dt pre x rest → F pre h → YieldOk k.P k.c l (.string (Go.Sp.tx x)) (hb rest :: h) fun h2 => ∃ h', h2 = hb rest :: h' ∧ F (pre ++ [x]) h') →
  ∀ I W h, F [] h → Ok k.c I (hb s :: h) W → Calls k.P gf (#[.func (.yield l) #[] #[]] ++ lb) W fun e W' => (∃ v, e = .returned v) ∧ ∃ I' r h', F all h' ∧ Ok k.c I' (hb r :: h') W')
 (hassign : ∀ (l : Nat) (a : Act) (v : Value) (W : World) (K : Act → World → Prop), a.tmps[p]? = some v → K (a.put (some q) v) W → assign.wpIn (Fence.wide.inRound l) 0 k.P (Exit.then K (fun _ _ _ => False)) a W)
 (hbody : ∀ (l : Nat) (e1 e2 : Ent) (pre : List (List UInt8)) (x rest : List UInt8) (h : H), dt pre x rest → Hs pre h → ∀ I a W, Ok k.c I (hb rest :: e1 :: e2 :: h) W → SF k.n W I ((q, .val (.string (Go.Sp.tx x))) :: (p, .val (.string (Go.Sp.tx x))) :: ρ) a → a.defers = [] →
  body.wpIn (Fence.wide.inRound l) 0 k.P (fun e _ W' => e = .normal ∧ ∃ I' h', Hs (pre ++ [x]) h' ∧ Ok k.c I' (hb rest :: e1 :: e2 :: h') W') a W)
 (hdone : ∀ (D : Nat) (e1 : Ent) (r : List UInt8) (h : H), Hs all h → ∀ I a w, Ok k.c I (hb r :: e1 :: .raw D (.deferred (some [])) :: h) w → SF k.n w I ρ a → a.defers = { target := .collected D, args := #[] } :: k.df → Post .normal a w) (h00 : Hs [] h0) :
 JP k (.rangeFunc g #[p] assign body) Post ρ (hb s :: h0) := by
 intro I a w k1 k2 k3
 refine (wpIn_wide (n := 0)).1 (wpIn_rangeFunc ?_)
 intro fn hfn
 obtain ⟨rec, hrec⟩ : ∃ rec : LoopState → Option Code → Loop, rec = fun st pe => { state := st, pending := pe, fn, tmps := a.tmps, params := #[p], assign, body, defers := w.heap.size } := ⟨_, rfl⟩
 obtain ⟨W1, hW1⟩ : ∃ W1, (w.alloc (.deferred (some []))).alloc (.loop (rec .ready none)) = W1 := ⟨_, rfl⟩
 have heg := rel_val (k2.ev g) (ev_of_evO hg)
 have ok1 := (k1.fresh (.deferred (some [])) (.raw w.heap.size (.deferred (some []))) rfl (World.alloc_heap_new w _)).fresh (.loop (rec .ready none)) (.raw (w.alloc (.deferred (some []))).heap.size (.loop (rec .ready none))) rfl (World.alloc_heap_new _ _)
 rw [hW1, World.size_alloc] at ok1
 obtain ⟨I1, ok1⟩ := ok1.perm (h' := hb s :: .raw (w.heap.size + 1) (.loop (rec .ready none)) :: .raw w.heap.size (.deferred (some [])) :: h0) (by
  refine (List.Perm.cons _ (List.Perm.swap _ _ _)).trans ?_
  exact List.Perm.swap _ _ _)
 refine ⟨w.heap.size + 1, [{ target := .collected w.heap.size, args := #[] }], W1, { target := .fn (.func gf) lb, args := #[.func (.yield (w.heap.size + 1)) #[] #[]] }, W1, gf,
  #[.func (.yield (w.heap.size + 1)) #[] #[]] ++ lb, W1, ?_, ?_, ?_, ?_, fun hd => (by cases hd), ?_⟩
 · rw [← hW1, hrec]; exact run_enterLoop_outer _ _ _ _ _
 · simp only [resolve, heg]
   simp [go_sem]
 · intro f' hf'; trivial
 · simp [invoke, go_sem, eg]
 · refine callsIn_wide.2 ((hit (w.heap.size + 1) (fun pre h => ∃ h', h = .raw (w.heap.size + 1) (.loop (rec .ready none)) :: .raw w.heap.size (.deferred (some [])) :: h' ∧ Hs pre h') ?_ I1 W1 _ ⟨h0, rfl, h00⟩ ok1).mono ?_)
   · rintro pre x rest _ hd ⟨hh, rfl, hH⟩ I W ok
     have hl : W.heap[w.heap.size + 1]? = some (.loop (rec .ready none)) := ok.ent (.raw (w.heap.size + 1) (.loop (rec .ready none))) (by simp)
     have hy := run_yield (P := k.P) (args := #[.string (Go.Sp.tx x)]) hl (by rw [hrec]; rfl)
     rw [hrec] at hy
     have hsz : a.tmps.size = k.n := k2.1
     refine ⟨fn, _, assign, body, hy, roundIn_of_wpIn hfn (hassign _ _ (.string (Go.Sp.tx x)) W _ (by simp [hsz, hp]) ⟨_, run_beginRound hl (by rw [hrec]), ?_⟩)⟩
     have ok2 := Ok.putRaw (o' := .loop { rec .ready none with state := .busy }) (show Ok k.c I ([hb rest] ++ .raw (w.heap.size + 1) (.loop (rec .ready none)) :: .raw w.heap.size (.deferred (some [])) :: hh) W from ok)
     have sf : SF k.n (W.putObj (w.heap.size + 1) (.loop { rec .ready none with state := .busy })) I ((q, .val (.string (Go.Sp.tx x))) :: (p, .val (.string (Go.Sp.tx x))) :: ρ) (Act.put { tmps := ((#[p].zip #[Value.string (Go.Sp.tx x)]).foldl (fun t (p, v) => t.setIfInBounds p v) a.tmps), defers := [] } (some q) (.string (Go.Sp.tx x))) := by
      have s0 : SF k.n (W.putObj (w.heap.size + 1) (.loop { rec .ready none with state := .busy })) I ρ { tmps := a.tmps, defers := [] } := SF.exact (w := w) (I := I1) ⟨k2.1, (k2.exact hex).2⟩ hex
      have s1 := (s0.put (dst := some p) (fun t ht => by cases ht; exact hp) (r := .val (.string (Go.Sp.tx x))) rfl).put (dst := some q) (fun t ht => by cases ht; exact hq) (r := .val (.string (Go.Sp.tx x))) (v := .string (Go.Sp.tx x)) rfl
      have ez : ((#[p].zip #[Value.string (Go.Sp.tx x)]).foldl (fun t (p, v) => t.setIfInBounds p v) a.tmps) = a.tmps.setIfInBounds p (.string (Go.Sp.tx x)) := by simp
      rw [ez]
      exact s1
     refine wpIn_mono (hbody _ _ _ pre x rest hh hd hH I _ _ ok2 sf rfl) ?_
     rintro e a3 W3 ⟨rfl, I3, hh3, hH3, ok3⟩
     have hl3 : W3.heap[w.heap.size + 1]? = some (.loop { rec .ready none with state := .busy }) := ok3.ent (.raw (w.heap.size + 1) (.loop { rec .ready none with state := .busy })) (by simp)
     have hr := run_endRound (P := k.P) none hl3
     have ok4 := Ok.putRaw (o' := .loop (rec .ready none)) (show Ok k.c I3 ([hb rest] ++ .raw (w.heap.size + 1) (.loop { rec .ready none with state := .busy }) :: .raw w.heap.size (.deferred (some [])) :: hh3) W3 from ok3)
     refine ⟨_, _, hr, rfl, I3, _, ⟨_, rfl, hh3, rfl, hH3⟩, ?_⟩
     have e0 : ({ (({ rec .ready none with state := .busy } : Loop)) with state := if (none : Option Code).isNone then LoopState.ready else .done, pending := none } : Loop) = rec .ready none := by rw [hrec]; rfl
     rw [e0]
     exact ok4
   · rintro e W2 ⟨⟨v, rfl⟩, I2, r, _, ⟨hh, rfl, hH⟩, ok2⟩
     have hl : W2.heap[w.heap.size + 1]? = some (.loop (rec .ready none)) := ok2.ent (.raw (w.heap.size + 1) (.loop (rec .ready none))) (by simp)
     have hend := run_endLoop (P := k.P) hl (by rw [hrec]; simp)
     have ok3 := Ok.putRaw (o' := .loop { rec .ready none with state := .exhausted }) (show Ok k.c I2 ([hb r] ++ .raw (w.heap.size + 1) (.loop (rec .ready none)) :: .raw w.heap.size (.deferred (some [])) :: hh) W2 from ok2)
     subst hrec
     refine ⟨none, _, hend, ?_⟩
     exact hdone w.heap.size _ r hh hH I2 _ _ ok3 (SF.exact (w := w) (I := I) ⟨k2.1, k2.2⟩ hex) (by simp [k3])
theorem callsJ {P : Program} {c : Cx} {f : FuncId} {fn : Func} {x : Code} {args : List AV} {vs : List Value} {h : H} {Q : AE → H → Prop} {I : Nat → Prop} {W : World} (n : Nat) (hf : P.funcs[f]? = some fn) (hb : fn.body = some x) (hn : fn.ntmps = n) (hr : fn.results = #[]) (ha : args.length ≤ n)
 (ok : Ok c I h W) (hv : AV.rels W I args vs) (hj : J ⟨P, c, n, []⟩ x (retQ [] Q) (argsEnv 0 args) h) : Calls P f vs.toArray W fun e w' => ∃ r h' I', Q r h' ∧ Ok c I' h' w' ∧ AE.rel w' I' r e := by
 have hlen := AV.rels_length hv
 refine calls_of_wp hf hb ?_
 have hsf : SF n W I (argsEnv 0 args) { tmps := vs.toArray ++ Array.replicate (fn.ntmps - vs.toArray.size) undef, defers := [] } := by
  refine ⟨by simp [hn]; omega, fun t => ?_⟩
  have := get_argsEnv W I args vs 0 t hv
  simp only [Nat.zero_le, if_true, Nat.sub_zero] at this
  have e : (vs.toArray ++ Array.replicate (fn.ntmps - vs.toArray.size) undef).getD t undef = (vs[t]?).getD undef := by
   rw [Array.getD_eq_getD_getElem?, Array.getElem?_append]
   by_cases ht : t < vs.length
   · simp [ht]
   · simp only [List.size_toArray, ht, if_false]
     rw [List.getElem?_eq_none (by omega)]
     simp only [Array.getElem?_replicate]
     split <;> rfl
  rw [e]; exact this
 refine wp_mono (hj I _ W ok hsf rfl) ?_
 rintro e a w ⟨I', ρ', h', k1, k2, k3, k4⟩
 have hres := run_results P fn [] hr a.tmps w
 have hrel : AV.rel w I' (resAV ρ' []) (resV a.tmps []) := ⟨[], rfl, trivial⟩
 cases e with
 | normal => exact ⟨k3, _, hres, _, h', I', k4, k1, hrel⟩
 | ret => exact ⟨k3, _, hres, _, h', I', k4, k1, hrel⟩
 | panic ch => exact ⟨k3, _, h', I', k4, k1, rfl⟩
 | exit _ => exact k4.elim
 | goto _ => exact k4.elim
 | outgrown => exact k4.elim
theorem VS.frame {ρ ρ' : Env} {h h' : H} (v : VS ρ h ρ' h') (g : H) : VS ρ (h ++ g) ρ' (h' ++ g) := fun c I n a w h1 h2 => by
 have hnd := h1.nd
 rw [blks_append] at hnd
 have ok : Ok ⟨w, I, blks h, c.G⟩ I h w :=
  { ent := fun e he => h1.ent e (List.mem_append.2 (.inl he)), nd := (List.nodup_append.1 hnd).1, imm := fun b hb => ⟨(h1.imm b hb).1, fun hm => (h1.imm b hb).2 (by rw [blks_append]; exact List.mem_append.2 (.inl hm))⟩,
    new := fun b hb => .inl hb, inew := fun b hb => .inl hb, sup := fun b hb => hb, os := rfl, tape := rfl, output := rfl, size := Nat.le_refl _, keep := fun _ _ _ => rfl, glob := h1.glob }
 obtain ⟨I', k1, k2⟩ := v _ I n a w ok h2
 exact ⟨I', (h1.call k1).1, k2⟩
theorem upon_round (m : Nat) {P : Program} {o : Oper} {a : Act} {next : Act → World → Prop} {Q : Exit → Act → World → Prop} : ∀ {r : Result Next}, o.upon P a next Q r → o.uponIn (Fence.wide.inRound m) 0 P a next Q r
 | .ok (.value _) _, h => h
 | .ok .skip _, h => h
 | .ok (.defer _) _, h => h
 | .ok (.enter _ _) _, h => ⟨fun hd => (by cases hd), (callsIn_wide.2 h).inRound m⟩
 | .ok (.row _ _) _, h => ⟨fun hd => (by cases hd), fun c cs _ => let ⟨v, w', r, s⟩ := h c cs; ⟨v, w', r, stepsIn_wide.2 s⟩⟩
 | .halt (.panic _) _, h => h
theorem wpOp_round (m : Nat) {P : Program} {ops : Array Oper} {Q : Exit → Act → World → Prop} (hnd : ∀ (i : Nat) (o : Oper), ops[i]? = some o → ∀ c : Call, o.op ≠ .defer c) (hQ : ¬ LetsOut Q) {i : Nat} {K : Act → World → Prop} {a : Act} {w : World} (h : wpOp P ops Q i K a w) : wpOpIn (Fence.wide.inRound m) 0 P ops Q i K a w := by
 unfold wpOp at h
 unfold wpOpIn
 cases ho : ops[i]? with
 | none => rw [ho] at h; exact h
 | some o =>
   rw [ho] at h
   dsimp only at h ⊢
   split
   · rename_i hw
     rw [if_pos hw] at h
     rcases h with h | h
     · refine ⟨fun f _ => trivial, ?_⟩
       rw [Fence.inRound_round, Oper.semAt_some _ _ _ (hnd i o ho)]
       exact upon_round m h
     · exact absurd h.2 hQ
   · rename_i hw
     rw [if_neg hw] at h
     exact ⟨fun f _ => trivial, h⟩
theorem wpAny_round (m : Nat) {P : Program} {ops : Array Oper} {Q : Exit → Act → World → Prop} {md : Region.Mode} (hnd : ∀ (i : Nat) (o : Oper), ops[i]? = some o → ∀ c : Call, o.op ≠ .defer c) (hQ : ¬ LetsOut Q) : ∀ (f : Nat) (listed : Array Bool) (a : Act) (w : World), wpAny P md ops Q f listed a w → wpAnyIn (Fence.wide.inRound m) 0 P md ops Q f listed a w
 | 0, _, _, _, h => h
 | f + 1, listed, a, w, h => ⟨h.1, fun i hi => wpOp_round m hnd hQ (wpOp_mono (fun a w => wpAny_round m hnd hQ f _ a w) (h.2 i hi))⟩
def notDefer : Op → Bool
 | .defer _ => false
 | _ => true
theorem JR_region_HB {k : Kx} {ρ : Env} {h h' : H} {Q : Exit → Env → H → Prop} (m : Nat) {id t n : Nat} {l l2 : List Oper} {P : Program} (hT : H) (hm : P.follows .mixedOrders = true) (hP : k.P = P) (hx : Hd l n l2) (hn : l.length = t) (hs : hShape l.toArray n = true) (hnd : (l.all fun o => notDefer o.op) = true) (ht : Take h hT h')
 (hQ : ∀ ρ h, ¬ Q .outgrown ρ h) (hj : JH k l.toArray n n (Array.replicate t false) l2 0 n false Q hT ρ h') {I : Nat → Prop} {a : Act} {w : World} (h1 : Ok k.c I h w) (h2 : SF k.n w I ρ a) (h3 : a.defers = k.df) :
 (Code.region id l.toArray true).wpIn (Fence.wide.inRound m) 0 k.P (lift k Q) a w := by
 obtain ⟨I', h1, h2⟩ := (VS.perm (ρ := ρ) ht.perm) _ _ _ _ _ h1 h2
 subst hP
 subst hn
 obtain ⟨hd, hle⟩ := hx.drop
 refine wpIn_region_any hm (wpAny_round m ?_ ?_ _ _ _ _ ?_)
 · intro i o ho c hc
   have hmem : o ∈ l := by
    have : l[i]? = some o := by simpa using ho
    exact List.mem_of_getElem? this
   have := List.all_eq_true.1 hnd o hmem
   rw [hc] at this
   cases this
 · intro hl
   obtain ⟨_, _, _, ρ1, hh1, _, _, _, hq⟩ := hl
   exact hQ _ _ hq
 have hsm : Same I' (hT ++ h') w { w with drawn := w.drawn + 1 } := ⟨rfl, rfl, rfl, Nat.le_refl _, fun _ _ => rfl⟩
 have inv0 : HeadInv .any l.toArray n (Array.replicate l.length false) :=
  ⟨by simp, fun j oj _ hl => (by rw [getD_replicate_false] at hl; cases hl), fun t _ ht => getD_in (by simpa using ht) (getD_replicate_false _ _)⟩
 have H := hj.get hs inv0 I' a _ (h1.same hsm) (SF.same h1 hsm h2) h3
 have K := any_of_headH (Q := lift k Q) (g := l.length - n) (fun listed' a' w' hL => by
  have := wpAny_of_seq (md := .any) (Q' := lift k Q) l2 n listed' a' w' (fun j => by rw [← hd]; simp [List.getElem?_drop]) (by
   have e : l2.length = l.toArray.size - n := by rw [← hd]; simp
   rw [e]; exact hL.1) hL.2
  have e : l2.length = l.length - n := by rw [← hd]; simp
  rwa [e] at this) _ _ _ _ H
 rw [show n + (l.length - n) = l.toArray.size by simp; omega] at K
 simpa using K
abbrev postM (P : Program) (fn : Func) (G : List (Nat × List D)) (W : World) (I : Nat → Prop) (h : H) (Q : AE → H → Prop) : Exit → Act → World → Prop := bodyPostM Fence.wide 0 P fn fun e w => ACpost G W I h Q e w
theorem AC_ofM {P : Program} {G : List (Nat × List D)} {f : FuncId} {fn : Func} {c : Code} {args : List AV} {h : H} {Q : AE → H → Prop} (n : Nat) (hf : P.funcs[f]? = some fn) (hb : fn.body = some c) (hn : fn.ntmps = n) (ha : args.length ≤ n)
 (hj : ∀ W I, JP ⟨P, ⟨W, I, blks h, G⟩, n, []⟩ c (postM P fn G W I h Q) (argsEnv 0 args) h) : AC P G f args h Q := by
 intro I W vs h1 h2 h3 hG h4
 have hlen := AV.rels_length h4
 refine callsIn_wide.1 (callsIn_of_wp_marks (n := 0) hf hb trivial (wpIn_wide.2 ?_))
 have hok : Ok ⟨W, I, blks h, G⟩ I h W :=
  { ent := h1, nd := h2, imm := h3, new := fun b hb => .inl hb, inew := fun b hb => .inl hb, sup := fun b hb => hb, os := rfl, tape := rfl, output := rfl, size := Nat.le_refl _, keep := fun _ _ _ => rfl, glob := hG }
 have hsf : SF n W I (argsEnv 0 args) { tmps := vs.toArray ++ Array.replicate (fn.ntmps - vs.toArray.size) undef, defers := [] } := by
  refine ⟨by simp [hn]; omega, fun t => ?_⟩
  have := get_argsEnv W I args vs 0 t h4
  simp only [Nat.zero_le, if_true, Nat.sub_zero] at this
  have e : (vs.toArray ++ Array.replicate (fn.ntmps - vs.toArray.size) undef).getD t undef = (vs[t]?).getD undef := by
   rw [Array.getD_eq_getD_getElem?, Array.getElem?_append]
   by_cases ht : t < vs.length
   · simp [ht]
   · simp only [List.size_toArray, ht, if_false]
     rw [List.getElem?_eq_none (by omega)]
     simp only [Array.getElem?_replicate]
     split <;> rfl
  rw [e]; exact this
 exact hj W I I _ W hok hsf rfl
theorem postM_none {P : Program} {fn : Func} {G : List (Nat × List D)} {W : World} {I : Nat → Prop} {h : H} {Q : AE → H → Prop} {rs : List ResultVar} {n : Nat} (hr : fn.results = rs.toArray) : ∀ e a w, lift ⟨P, ⟨W, I, blks h, G⟩, n, []⟩ (retR P G rs Q) e a w → postM P fn G W I h Q e a w := by
 rintro e a w ⟨I', ρ', h', k1, k2, k3, k4⟩
 have fin : (∃ ρ1 h1 xs h'', VS ρ' h' ρ1 h1 ∧ RVs P G ρ1 h1 rs xs ∧ List.Sublist h'' h1 ∧ Q (.ret (tupAV xs)) h'') → ∃ v, (results fn a.tmps).run P w = .ok v w ∧ ACpost G W I h Q (.returned v) w := by
  rintro ⟨ρ1, hh1, xs, h'', v, hrv, hsub, hq⟩
  obtain ⟨I1, m1, m2⟩ := v _ _ _ _ _ k1 k2
  obtain ⟨us, e1, e2⟩ := mapM_results rfl m1 m2 hrv
  exact ⟨_, run_resultsR hr e1, _, h'', I1, hq, m1.sub hsub, tup_rel e2⟩
 cases e with
 | normal => show LeavesInM _ _ _ _ _ _ a.defers _ _; rw [k3]; exact fin k4
 | ret => show LeavesInM _ _ _ _ _ _ a.defers _ _; rw [k3]; exact fin k4
 | panic ch => show LeavesInM _ _ _ _ _ _ a.defers _ _; rw [k3]; exact ⟨_, h', I', k4, k1, rfl⟩
 | exit _ => exact k4.elim
 | goto _ => exact k4.elim
 | outgrown => exact k4.elim
def retM (P : Program) (G : List (Nat × List D)) (rs : List ResultVar) (dn : Nat) (Q : AE → H → Prop) (e : Exit) (ρ : Env) (h : H) : Prop :=
 retE e = true ∧ ∃ ρ1 h1 xs h', VS ρ h ρ1 (.raw dn (.deferred (some [])) :: h1) ∧ RVs P G ρ1 (.raw dn (.deferred none) :: h1) rs xs ∧ List.Sublist h' (.raw dn (.deferred none) :: h1) ∧ Q (.ret (tupAV xs)) h'
theorem postM_one {P : Program} {fn : Func} {G : List (Nat × List D)} {W : World} {I : Nat → Prop} {h : H} {Q : AE → H → Prop} {rs : List ResultVar} {n dn : Nat} (hr : fn.results = rs.toArray) : ∀ e a w, lift ⟨P, ⟨W, I, blks h, G⟩, n, [{ target := .collected dn, args := #[] }]⟩ (retM P G rs dn Q) e a w → postM P fn G W I h Q e a w := by
 rintro e a w ⟨I', ρ', h', k1, k2, k3, he, ρ1, hh1, xs, h'', v, hrv, hsub, hq⟩
 have fin : LeavesInM Fence.wide 0 P fn a.tmps (fun e w => ACpost G W I h Q e w) a.defers .returning w := by
  obtain ⟨I1, m1, m2⟩ := v _ _ _ _ _ k1 k2
  have hD : w.heap[dn]? = some (.deferred (some [])) := m1.ent (.raw dn (.deferred (some []))) (by simp)
  have m1' := Ok.putRaw (o' := .deferred none) (h1 := []) m1
  have hni : ∀ b, I1 b → b ≠ dn := fun b hb e => (m1.imm b hb).2 (by subst e; simp [blks, Ent.blk])
  have m2' : SF n (w.putObj dn (.deferred none)) I1 ρ1 a := m2.mono (fun b hb => World.putObj_heap_other (hni b hb)) (fun _ hb => hb)
  obtain ⟨us, e1, e2⟩ := mapM_results rfl m1' m2' hrv
  rw [k3]
  refine ⟨by simp, .inl ⟨_, _, rfl, run_takeDeferred hD, ?_⟩⟩
  exact ⟨_, run_resultsR hr e1, _, h'', I1, hq, m1'.sub hsub, tup_rel e2⟩
 cases e <;> first | exact fin | cases he
theorem JP_block {k : Kx} {ρ : Env} {h : H} {id : Nat} {x : Code} {Post : Exit → Act → World → Prop} (hj : JP k x (Exit.inBlock id Post) ρ h) : JP k (.block id x) Post ρ h := fun I a w h1 h2 h3 => wp_block (hj I a w h1 h2 h3)
end Go.Av
