/- A bundle of this claim's own texts: V4. -/
import Derived.Test.YtajnpfgelpkijaaGreatDoorA2
import Derived.Test.YtajnpfgelpkijaaGreatDoorA3
import Derived.Test.YtajnpfgelpkijaaGreatDoorA19
set_option linter.unusedVariables false
set_option linter.unusedSimpArgs false
set_option maxRecDepth 100000
set_option maxHeartbeats 4000000
namespace Go.Av
open Go
section
variable {k : Kx} {Q : Exit → Env → H → Prop} {ρ : Env} {h : H} {ops : Array Oper} {listed : Array Bool} {n f i m d : Nat} {ty : TypeId} {pos : String} {after : Array Edge}
theorem OW {x : Operand} {ad : Addr} (ho : ops[i]? = some ⟨some d, .nilCheck x, ty, pos, after, none⟩) (hc : Gf ops listed ops.size i = true) (hx : evO ρ x = some (.val (.pointer (some ad)))) (hd : Nat.blt d k.n = true)
 (hj : JXP k ops n f (listed.setIfInBounds i true) 0 n Q ((d, .val (.pointer (some ad))) :: ρ) h) : JXP k ops n (f + 1) listed i (m + 1) Q ρ h :=
 ⟨Pz ho hc (fun t ht => by cases ht; exact blt hd) (fun _ a _ _ h2 => ⟨.pointer (some ad), (by unfold AV.rel; rfl), .inl ⟨by simp [Region.wanted], fun w _ => by
  have e1 := AI (h2.ev x) (AA hx)
  simp [execOp, e1]⟩⟩) hj.get⟩
theorem Vv {S : TypeId} {x : Operand} {fi b off fo : Nat} (ho : ops[i]? = some ⟨some d, .fieldAddr S x fi, ty, pos, after, none⟩) (hc : Gf ops listed ops.size i = true) (hx : evO ρ x = some (.val (.pointer (some ⟨b, off, none⟩)))) (hF : Fld k.P S fi fo) (hd : Nat.blt d k.n = true)
 (hj : JXP k ops n f (listed.setIfInBounds i true) 0 n Q ((d, .val (.pointer (some ⟨b, off + fo, none⟩))) :: ρ) h) : JXP k ops n (f + 1) listed i (m + 1) Q ρ h :=
 ⟨Pz ho hc (fun t ht => by cases ht; exact blt hd) (fun _ a w' _ h2 => ⟨.pointer (some ⟨b, off + fo, none⟩), (by unfold AV.rel; rfl), .inl ⟨by simp [Region.wanted], fun w _ => by
  obtain ⟨fs, fd, it, hS, hf, hi, hne, rfl⟩ := hF.get
  have e1 := AI (h2.ev x) (AA hx)
  simp [execOp, e1, Instr.fieldAt, run_underlying hS, hf, Instr.sureAddr, fieldPlace, sizeOf, typeInfo, hi, hne, Addr.add_lit]⟩⟩) hj.get⟩
end
end Go.Av
namespace Go.Proofs.YtajnpfgelpkijaaGreatDoor
open Go Go.Av Go.Sp

theorem NY : Cal Tryz.prog 107 := Cal.of Tryz.func107 (by kernel_rfl) (by kernel_rfl)
theorem Jn : Cal Tryz.prog 143 := Cal.of Tryz.func143 (by kernel_rfl) (by kernel_rfl)
theorem Lg : Cal Tryz.prog 108 := Cal.of Tryz.func108 (by kernel_rfl) (by kernel_rfl)
def frC (p : Nat × Nat) : List D := [.i .i64 (p.1 : Int), .i .i64 (p.2 : Int)]
abbrev srH (sb bo bl bp n : Nat) (g : Gn) (s : TS) (qo qc : Sl) : H :=
 [.cells sb 178 [.d (AN g.spots), .int g.init, .d (BJ g.next), .d (Af g.sets), .int g.many, .val (.slice (some ⟨bo, 0, none⟩) n n), .val (.slice (some ⟨bl, 0, none⟩) n n), .val (.slice (some ⟨bp, 0, none⟩) n n), .val qo.v, .val qc.v, .int s.met],
  .cells bo 3 (s.order.map AV.int), .cells bl 3 (s.low.map AV.int), .cells bp 3 (s.part.map AV.int), AF qo.v 3 1 Po s.opn, AF qc.v 215 2 frC s.calls]
structure Fit (n : Nat) (s : TS) : Prop where
 size : n ≤ 20000
 lo : s.order.length = n
 ll : s.low.length = n
 lp : s.part.length = n
 opn : s.opn.length ≤ n
 calls : s.calls.length ≤ n
 met : s.met ≤ n
theorem enter (G : List (Nat × List D)) (sb bo bl bp n a : Nat) (g : Gn) (s : TS) (qo qc : Sl) (ft : Fit n s) (ha : a < n) :
 AC Tryz.prog G 107 [.val (.pointer (some ⟨sb, 0, none⟩)), .int a] (srH sb bo bl bp n g s qo qc) fun r h => ∃ y : Sl × Sl, r = .ret (.tup []) ∧ h = srH sb bo bl bp n g (s.enter a) y.1 y.2 := by
 refine Dd (ts := []) Tryz.f107.ntmps Tryz.func107 rfl rfl rfl (by simp [Tryz.ntmps107]) fun W I => ?_
 obtain ⟨f1, f2, f3, f4, f5, f6, f7⟩ := ft
 refine FF ?_
 refine Mc (X := Unit) (fun _ => [(0, .val (.pointer (some ⟨sb, 0, none⟩))), (1, .int a)]) (fun _ => srH sb bo bl bp n g { s with met := s.met + 1 } qo qc) ?_ (fun _ => ?_)
 · repeat' (first
    | exact True.intro | refine AM ?_ | refine two ?_ ?_
    | (refine imp fun hc => ?_) <;> try exact cx hc
    | refine all fun v_ => ?_)
   refine ⟨(), VS.of_le ?_⟩
   exact leD
 refine Cw ?_
 refine FF ?_
 refine Mc (X := Unit) (fun _ => [(0, .val (.pointer (some ⟨sb, 0, none⟩))), (1, .int a)]) (fun _ => srH sb bo bl bp n g { s with order := s.order.set a (s.met + 1), low := s.low.set a (s.met + 1), met := s.met + 1 } qo qc) ?_ (fun _ => ?_)
 · refine Jg mixed rfl (by (repeat (with_reducible apply Aa)); exact len_nil) (by decide +kernel) ?_
   repeat (first
    | ((with_reducible apply Q0); (focus rfl); (focus (decide +kernel)); (focus rfl); (focus rfl))
    | ((with_reducible apply OW); (focus rfl); (focus (decide +kernel)); (focus rfl); (focus rfl))
    | ((with_reducible apply Vv); (focus rfl); (focus (decide +kernel)); (focus rfl); (focus (with_reducible exact FdC.h)); (focus rfl))
    | with_reducible apply QF)
   refine XI [(3, 14, _), (8, 19, _), (13, 24, _), (17, 28, _)] [3, 8, 13, 17] [14, 19, 24, 28] (.cons rfl (by exact Hc) rfl rfl (.cons rfl (by exact Hc) rfl rfl (.cons rfl (by exact Hc) rfl rfl (.cons rfl (by exact Hc) rfl rfl .nil)))) rfl rfl rfl (by decide +kernel) (by decide) (by decide) ?_
   repeat' (first
    | exact True.intro | refine AM ?_ | refine two ?_ ?_
    | (refine imp fun hc => ?_) <;> try exact cx hc
    | refine all fun v_ => ?_)
   all_goals
    refine ⟨(), VS.of_le ?_⟩
    exact leD
 refine Cw ?_
 repeat' (first
  | ((with_reducible apply (Bm (f := frC) (u := (a, 0)))); (focus rfl); (focus rfl); (focus (with_reducible exact ElC.h)); (focus exact BT); (focus rfl); (focus rfl); (focus rfl); (focus rfl); (focus exact Ad); (focus exact Ad))
  | exact True.intro | refine AM ?_ | refine two ?_ ?_
  | (refine imp fun hc => ?_) <;> try exact cx hc
  | refine all fun v_ => ?_)
 exact rq0 rfl ⟨(_, _), rfl, rfl⟩
end Go.Proofs.YtajnpfgelpkijaaGreatDoor
