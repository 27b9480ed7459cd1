/- A bundle of this claim's own texts: V3 V4. -/
import Derived.Test.YtibahljljjkceaaGreatDoorA2
import Derived.Test.YtibahljljjkceaaGreatDoorA23
import Derived.Test.YtibahljljjkceaaGreatDoorA37
set_option linter.unusedVariables false
set_option linter.unusedSimpArgs false
set_option maxRecDepth 100000
set_option maxHeartbeats 4000000
namespace Go.Proofs.YtibahljljjkceaaGreatDoor
open Go Go.Av Go.Sp

abbrev aR (bs bt bv : Nat) (n : Nat) (p : List Bool × List Nat) (q : Sl) : H := [.cells bs 95 [.val (.slice (some ⟨bv, 0, none⟩) n n)], .cells bv 4 (p.1.map AV.bool), .cells bt 31 [.val q.v], AM q.v 3 1 F0 p.2]
theorem visit (G : List (Nat × List D)) (bs bt bv n i : Nat) (p : List Bool × List Nat) (q : Sl) (hn : p.1.length = n) (hi : i < n) (hl : n ≤ 20000) (hp : p.2.length ≤ 100000) :
 AC Tryz.prog G 138 [.int i, .val (.pointer (some ⟨bs, 0, none⟩)), .val (.pointer (some ⟨bt, 0, none⟩))] (aR bs bt bv n p q) fun r h => ∃ q' : Sl, r = .ret (.tup []) ∧ h = aR bs bt bv n (B5 p i) q' := by
 refine DU (ts := []) Tryz.f138.ntmps Tryz.func138 rfl rfl rfl (by simp [Tryz.ntmps138]) fun W I => ?_
 have hb := Ha p.1 i (by omega)
 by_cases h : p.1[i]'(by omega) = true
 · have e : B5 p i = p := by rw [B5, hb, if_pos h]
   rw [e]
   repeat' (first
    | exact True.intro | refine AR ?_ | refine two ?_ ?_
    | (refine imp fun hc => ?_) <;> try exact cx hc
    | refine all fun v_ => ?_)
   · exact rq0 rfl ⟨_, rfl, rfl⟩
   · rw [h] at hc; cases hc
 · have e : B5 p i = (p.1.set i true, p.2 ++ [i]) := by rw [B5, hb, if_neg h]
   rw [e]
   repeat' (first
    | exact True.intro | refine AR ?_ | refine two ?_ ?_
    | (refine imp fun hc => ?_) <;> try exact cx hc
    | refine all fun v_ => ?_)
   exact rq0 rfl ⟨_, rfl, rfl⟩
theorem K5 : ∀ n : Nat, HM (List.replicate n false) = n
 | 0 => rfl
 | n + 1 => by rw [List.replicate_succ, HM, K5 n]; simp [Nat.add_comm]
theorem SX {α : Type} (r : List α) (v : α) (h : ((((r ++ [v]).length : Nat) : Int) - 1).toNat < (r ++ [v]).length) : (r ++ [v])[((((r ++ [v]).length : Nat) : Int) - 1).toNat] = v := by
 have e : ((((r ++ [v]).length : Nat) : Int) - 1).toNat = r.length := by simp
 simp [e]
theorem Qw {α : Type} (r : List α) (v : α) : (r ++ [v]).take ((((r ++ [v]).length : Nat) : Int) - 1).toNat = r := by
 have e : ((((r ++ [v]).length : Nat) : Int) - 1).toNat = r.length := by simp
 rw [e, List.take_left]
theorem VQ (G : List (Nat × List D)) (g : Gr) : ACr Tryz.prog G 90 [grA g] (.tup [.d (Ai (Di g).1), .int (Di g).2]) := by
 refine AN (ts := [2, 3]) Tryz.f90.ntmps Tryz.func90 rfl rfl rfl (by simp [Tryz.ntmps90]) fun W I => ?_
 have E := Ul G g
 by_cases hk : ¬ okG g
 · have e : Gu g = 9 := if_neg hk
   rw [e] at E
   repeat' (first
    | refine ca Gy (E) ?_
    | exact True.intro | refine AR ?_ | refine two ?_ ?_
    | (refine imp fun hc => ?_) <;> try exact cx hc
    | refine all fun v_ => ?_)
   refine AH (VS.trans (VS.drop (List.nil_sublist _)) (Cn (t := 2) 1 1 rfl)) ?_
   ((with_reducible apply rq2); rfl; rfl; rfl)
   exact AA (by rw [I6 hk]; rfl)
 obtain ⟨g, rfl, hok⟩ := Fy (Decidable.not_not.1 hk)
 rw [Ez (Gn.ok_gr hok)] at E
 rw [HN] at E ⊢
 clear hk
 have hs := hok.size
 have hi0 := hok.init
 have hnl := hok.next
 repeat' (first
  | refine ca Gy (E) ?_
  | exact True.intro | refine AR ?_ | refine two ?_ ?_
  | (refine imp fun hc => ?_) <;> try exact cx hc
  | refine all fun v_ => ?_)
 rename_i bg bv bs
 rename Nat => bt
 refine C4 (E := 3) (sz := 1) F0 ?_
 refine AG (X := (List Bool × List Nat) × Sl × Nat) (fun y => [(1, .val (.pointer (some ⟨bg, 0, none⟩))), (5, .val (.pointer (some ⟨bs, 0, none⟩))), (6, .val (.pointer (some ⟨bt, 0, none⟩))), (7, .val (.func (.func 138) #[] #[.pointer (some ⟨bs, 0, none⟩), .pointer (some ⟨bt, 0, none⟩)])), (23, .int g.init), (24, .int y.2.2)]) (fun y => [.cells bs 95 [.val (.slice (some ⟨bv, 0, none⟩) g.spots.length g.spots.length)], .cells bv 4 (y.1.1.map AV.bool), .cells bt 31 [.val y.2.1.v], AM y.2.1.v 3 1 F0 y.1.2, .cells bg 62 [.d (AO g.spots), .int g.init, .d (As g.next), .d (AT g.sets), .int g.many]]) (fun y => RI g none y.2.2 y.1 ∧ y.2.2 ≤ g.init ∧ muR y.1 ≤ 2 * g.spots.length) (fun y => g.init - y.2.2) ((List.replicate g.spots.length false, []), Sl.nil, 0) ⟨RI.start g, Nat.zero_le _, ?_⟩ (VS.take (by exact Ap) ?_) ?_
 · simp [muR, K5]
 · exact leD
 rintro ⟨p, q, i⟩ ⟨h1, h2, h3⟩
 dsimp only at h1 h2 h3 ⊢
 have hp := h1.len
 have hp2 : p.2.length ≤ 100000 := by unfold muR at h3; omega
 by_cases hi : i < g.init
 · have hin : i < g.spots.length := by omega
   repeat' (first
    | refine cgv MY (visit _ bs bt bv _ i p q hp hin hs hp2) ?_
    | exact True.intro | refine AR ?_ | refine two ?_ ?_
    | (refine imp fun hc => ?_) <;> try exact cx hc
    | refine all fun v_ => ?_)
   have hm := Pt (p := p) (i := i) (by omega)
   refine ⟨(B5 p i, v_, i + 1), ⟨h1.initStep hok hi, by dsimp only; omega, by dsimp only; omega⟩, by dsimp only; omega, VS.of_le ?_⟩
   exact leD
 obtain rfl : i = g.init := by omega
 repeat' (first
  | exact True.intro | refine AR ?_ | refine two ?_ ?_
  | (refine imp fun hc => ?_) <;> try exact cx hc
  | refine all fun v_ => ?_)
 refine AG (X := (List Bool × List Nat) × Sl) (fun y => [(1, .val (.pointer (some ⟨bg, 0, none⟩))), (5, .val (.pointer (some ⟨bs, 0, none⟩))), (6, .val (.pointer (some ⟨bt, 0, none⟩))), (7, .val (.func (.func 138) #[] #[.pointer (some ⟨bs, 0, none⟩), .pointer (some ⟨bt, 0, none⟩)]))]) (fun y => [.cells bs 95 [.val (.slice (some ⟨bv, 0, none⟩) g.spots.length g.spots.length)], .cells bv 4 (y.1.1.map AV.bool), .cells bt 31 [.val y.2.v], AM y.2.v 3 1 F0 y.1.2, .cells bg 62 [.d (AO g.spots), .int g.init, .d (As g.next), .d (AT g.sets), .int g.many]]) (fun y => RI g none g.init y.1 ∧ muR y.1 ≤ 2 * g.spots.length) (fun y => muR y.1) (p, q) ⟨h1, h3⟩ (VS.of_le ?_) ?_
 · exact leD
 clear h1 h3 hp hp2 hi h2
 rintro ⟨⟨s, td⟩, q⟩ ⟨h1, h3⟩
 dsimp only at h1 h3 ⊢
 have hp := h1.len
 have hp2 : td.length ≤ 100000 := by unfold muR at h3; dsimp only at h3; omega
 rcases List.eq_nil_or_concat td with e | ⟨r, v, e⟩
 · subst e
   repeat' (first
    | exact True.intro | refine AR ?_ | refine two ?_ ?_
    | (refine imp fun hc => ?_) <;> try exact cx hc
    | refine all fun v_ => ?_)
   refine AH (VS.trans (VS.drop (h' := [.cells bv 4 (s.map AV.bool)]) (by exact Hs)) (vfz (t := 2) (f := Dq) (h1 := []) 1 1 rfl rfl rfl (FV s) hp (fun _ => rfl) (by omega) (by omega))) ?_
   ((with_reducible apply rq2); rfl; rfl; rfl)
   exact AA (by rw [Ej hok, ← h1.all rfl])
 · rw [List.concat_eq_append] at e
   subst e
   have hv := h1.todo v (by simp)
   have hvn : v < g.next.length := by omega
   have hlr : ((r ++ [v]).length : Int) = r.length + 1 := by simp
   repeat' (first
    | exact True.intro | refine AR ?_ | refine two ?_ ?_
    | (refine imp fun hc => ?_) <;> try exact cx hc
    | refine all fun v_ => ?_)
   simp only [SX, Qw]
   repeat' (first
    | exact True.intro | refine AR ?_ | refine two ?_ ?_
    | (refine imp fun hc => ?_) <;> try exact cx hc
    | refine all fun v_ => ?_)
   have h1' := h1.pop (v := v) (r := r) rfl
   have hm1 : muR (s, r) < muR (s, r ++ [v]) := by simp [muR]
   have hnx := g.nx_get v hvn
   refine AG (X := (List Bool × List Nat) × Sl × Nat) (fun y => [(1, .val (.pointer (some ⟨bg, 0, none⟩))), (5, .val (.pointer (some ⟨bs, 0, none⟩))), (6, .val (.pointer (some ⟨bt, 0, none⟩))), (7, .val (.func (.func 138) #[] #[.pointer (some ⟨bs, 0, none⟩), .pointer (some ⟨bt, 0, none⟩)])), (49, .d (AT g.next[v])), (50, .int g.next[v].length), (51, .int y.2.2)]) (fun y => [.cells bs 95 [.val (.slice (some ⟨bv, 0, none⟩) g.spots.length g.spots.length)], .cells bv 4 (y.1.1.map AV.bool), .cells bt 31 [.val y.2.1.v], AM y.2.1.v 3 1 F0 y.1.2, .cells bg 62 [.d (AO g.spots), .int g.init, .d (As g.next), .d (AT g.sets), .int g.many]]) (fun y => RI g (some (v, y.2.2)) g.init y.1 ∧ bi y.1.1 v = true ∧ y.2.2 ≤ g.next[v].length ∧ muR y.1 ≤ muR (s, r)) (fun y => g.next[v].length - y.2.2) ((s, r), v_, 0) ⟨h1', hv.2, Nat.zero_le _, Nat.le_refl _⟩ (VS.of_le ?_) ?_
   · exact leD
   rintro ⟨p, q, j⟩ ⟨k1, k2, k3, k4⟩
   dsimp only at k1 k2 k3 k4 ⊢
   refine Bs (t := 49) rfl fun hlj => ?_
   have hpl := k1.len
   have hp3 : p.2.length ≤ 100000 := by
    have h5 : muR p ≤ 2 * g.spots.length := by omega
    unfold muR at h5; omega
   by_cases hj : j < g.next[v].length
   · have hj' : j < (g.nx v).length := by rw [hnx]; exact hj
     have hke : (g.nx v)[j] = g.next[v][j] := by simp only [hnx]
     have hkn := g.nx_lt hok v _ (List.getElem_mem hj')
     have ke := k1.edge hok k2 hj'
     rw [hke] at hkn ke
     repeat' (first
      | refine cgv MY (visit _ bs bt bv _ g.next[v][j] p q hpl hkn hs hp3) ?_
      | exact True.intro | refine AR ?_ | refine two ?_ ?_
      | (refine imp fun hc => ?_) <;> try exact cx hc
      | refine all fun v_ => ?_)
     have hm := Pt (p := p) (i := g.next[v][j]) (by omega)
     refine ⟨(B5 p g.next[v][j], v_, j + 1), ⟨ke, Fs (by omega) k2, by dsimp only; omega, by dsimp only; omega⟩, by dsimp only; omega, VS.of_le ?_⟩
     exact leD
   · have ej : j = (g.nx v).length := by rw [hnx]; omega
     rw [ej] at k1
     repeat' (first
      | exact True.intro | refine AR ?_ | refine two ?_ ?_
      | (refine imp fun hc => ?_) <;> try exact cx hc
      | refine all fun v_ => ?_)
     refine ⟨(p, q), ⟨k1.done, by dsimp only; omega⟩, by dsimp only; omega, VS.of_le ?_⟩
     exact leD
end Go.Proofs.YtibahljljjkceaaGreatDoor
namespace Go.Av
open Go
section
variable {k : Kx} {Q : Exit → Env → H → Prop} {ρ : Env} {h : H} {ops : Array Oper} {listed : Array Bool} {n f i m d : Nat} {ty : TypeId} {pos : String} {after : Array Edge}
theorem OK {x : Operand} {ad : Addr} (ho : ops[i]? = some ⟨some d, .nilCheck x, ty, pos, after, none⟩) (hc : HE ops listed ops.size i = true) (hx : evO ρ x = some (.val (.pointer (some ad)))) (hd : Nat.blt d k.n = true)
 (hj : JXP k ops n f (listed.setIfInBounds i true) 0 n Q ((d, .val (.pointer (some ad))) :: ρ) h) : JXP k ops n (f + 1) listed i (m + 1) Q ρ h :=
 ⟨Oa ho hc (fun t ht => by cases ht; exact blt hd) (fun _ a _ _ h2 => ⟨.pointer (some ad), (by unfold AV.rel; rfl), .inl ⟨by simp [Region.wanted], fun w _ => by
  have e1 := AP (h2.ev x) (AF hx)
  simp [execOp, e1]⟩⟩) hj.get⟩
theorem Sk {S : TypeId} {x : Operand} {fi b off fo : Nat} (ho : ops[i]? = some ⟨some d, .fieldAddr S x fi, ty, pos, after, none⟩) (hc : HE ops listed ops.size i = true) (hx : evO ρ x = some (.val (.pointer (some ⟨b, off, none⟩)))) (hF : Fld k.P S fi fo) (hd : Nat.blt d k.n = true)
 (hj : JXP k ops n f (listed.setIfInBounds i true) 0 n Q ((d, .val (.pointer (some ⟨b, off + fo, none⟩))) :: ρ) h) : JXP k ops n (f + 1) listed i (m + 1) Q ρ h :=
 ⟨Oa ho hc (fun t ht => by cases ht; exact blt hd) (fun _ a w' _ h2 => ⟨.pointer (some ⟨b, off + fo, none⟩), (by unfold AV.rel; rfl), .inl ⟨by simp [Region.wanted], fun w _ => by
  obtain ⟨fs, fd, it, hS, hf, hi, hne, rfl⟩ := hF.get
  have e1 := AP (h2.ev x) (AF hx)
  simp [execOp, e1, Instr.fieldAt, run_underlying hS, hf, Instr.sureAddr, fieldPlace, sizeOf, typeInfo, hi, hne, Addr.add_lit]⟩⟩) hj.get⟩
end
end Go.Av
namespace Go.Proofs.YtibahljljjkceaaGreatDoor
open Go Go.Av Go.Sp

theorem Mn : Cal Tryz.prog 111 := Cal.of Tryz.func111 (by kernel_rfl) (by kernel_rfl)
theorem J0 : Cal Tryz.prog 158 := Cal.of Tryz.func158 (by kernel_rfl) (by kernel_rfl)
theorem Ll : Cal Tryz.prog 112 := Cal.of Tryz.func112 (by kernel_rfl) (by kernel_rfl)
def frC (p : Nat × Nat) : List D := [.i .i64 (p.1 : Int), .i .i64 (p.2 : Int)]
abbrev srH (sb bo bl bp n : Nat) (g : Gn) (s : TS) (qo qc : Sl) : H :=
 [.cells sb 180 [.d (AO g.spots), .int g.init, .d (As g.next), .d (AT g.sets), .int g.many, .val (.slice (some ⟨bo, 0, none⟩) n n), .val (.slice (some ⟨bl, 0, none⟩) n n), .val (.slice (some ⟨bp, 0, none⟩) n n), .val qo.v, .val qc.v, .int s.met],
  .cells bo 3 (s.order.map AV.int), .cells bl 3 (s.low.map AV.int), .cells bp 3 (s.part.map AV.int), AM qo.v 3 1 F0 s.opn, AM qc.v 219 2 frC s.calls]
structure Fit (n : Nat) (s : TS) : Prop where
 size : n ≤ 20000
 lo : s.order.length = n
 ll : s.low.length = n
 lp : s.part.length = n
 opn : s.opn.length ≤ n
 calls : s.calls.length ≤ n
 met : s.met ≤ n
theorem enter (G : List (Nat × List D)) (sb bo bl bp n a : Nat) (g : Gn) (s : TS) (qo qc : Sl) (ft : Fit n s) (ha : a < n) :
 AC Tryz.prog G 111 [.val (.pointer (some ⟨sb, 0, none⟩)), .int a] (srH sb bo bl bp n g s qo qc) fun r h => ∃ y : Sl × Sl, r = .ret (.tup []) ∧ h = srH sb bo bl bp n g (s.enter a) y.1 y.2 := by
 refine DU (ts := []) Tryz.f111.ntmps Tryz.func111 rfl rfl rfl (by simp [Tryz.ntmps111]) fun W I => ?_
 obtain ⟨f1, f2, f3, f4, f5, f6, f7⟩ := ft
 refine Iz ?_
 refine LU (X := Unit) (fun _ => [(0, .val (.pointer (some ⟨sb, 0, none⟩))), (1, .int a)]) (fun _ => srH sb bo bl bp n g { s with met := s.met + 1 } qo qc) ?_ (fun _ => ?_)
 · repeat' (first
    | exact True.intro | refine AR ?_ | refine two ?_ ?_
    | (refine imp fun hc => ?_) <;> try exact cx hc
    | refine all fun v_ => ?_)
   refine ⟨(), VS.of_le ?_⟩
   exact leD
 refine EF ?_
 refine Iz ?_
 refine LU (X := Unit) (fun _ => [(0, .val (.pointer (some ⟨sb, 0, none⟩))), (1, .int a)]) (fun _ => srH sb bo bl bp n g { s with order := s.order.set a (s.met + 1), low := s.low.set a (s.met + 1), met := s.met + 1 } qo qc) ?_ (fun _ => ?_)
 · refine JZ mixed rfl (by (repeat (with_reducible apply Ax)); exact len_nil) (by decide +kernel) ?_
   repeat (first
    | ((with_reducible apply PE); (focus rfl); (focus (decide +kernel)); (focus rfl); (focus rfl))
    | ((with_reducible apply OK); (focus rfl); (focus (decide +kernel)); (focus rfl); (focus rfl))
    | ((with_reducible apply Sk); (focus rfl); (focus (decide +kernel)); (focus rfl); (focus (with_reducible exact FdC.h)); (focus rfl))
    | with_reducible apply QA)
   refine Tr [(3, 14, _), (8, 19, _), (13, 24, _), (17, 28, _)] [3, 8, 13, 17] [14, 19, 24, 28] (.cons rfl (by exact HD) rfl rfl (.cons rfl (by exact HD) rfl rfl (.cons rfl (by exact HD) rfl rfl (.cons rfl (by exact HD) rfl rfl .nil)))) rfl rfl rfl (by decide +kernel) (by decide) (by decide) ?_
   repeat' (first
    | exact True.intro | refine AR ?_ | refine two ?_ ?_
    | (refine imp fun hc => ?_) <;> try exact cx hc
    | refine all fun v_ => ?_)
   all_goals
    refine ⟨(), VS.of_le ?_⟩
    exact leD
 refine EF ?_
 repeat' (first
  | ((with_reducible apply (Ea (f := frC) (u := (a, 0)))); (focus rfl); (focus rfl); (focus (with_reducible exact ElC.h)); (focus exact Db); (focus rfl); (focus rfl); (focus rfl); (focus rfl); (focus exact BI); (focus exact BI))
  | exact True.intro | refine AR ?_ | refine two ?_ ?_
  | (refine imp fun hc => ?_) <;> try exact cx hc
  | refine all fun v_ => ?_)
 exact rq0 rfl ⟨(_, _), rfl, rfl⟩
end Go.Proofs.YtibahljljjkceaaGreatDoor
