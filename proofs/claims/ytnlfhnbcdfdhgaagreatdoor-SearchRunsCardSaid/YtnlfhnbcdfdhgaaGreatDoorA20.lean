/- Own texts. -/
import Derived.Sort.OwnSortedInts
import Derived.Lib.SlicesCompact
import Derived.Test.YtnlfhnbcdfdhgaaGreatDoorA19
set_option linter.unusedVariables false
set_option linter.unusedSimpArgs false
set_option maxRecDepth 100000
set_option maxHeartbeats 4000000
namespace Go.Proofs.YtnlfhnbcdfdhgaaGreatDoor
open Go Go.Av Go.Sp
theorem BJ {h : H} {b n : Nat} {E : TypeId} {out : List Bool} (hm : Ent.cells b E (out.map AV.bool) ∈ h) (hn : out.length = n) (hb : n ≤ 1000000) : Up h (.val (.slice (some ⟨b, 0, none⟩) n n)) (Ap out) :=
 RY hm (by decide) (GA out) (by simpa using hn) (fun r hr => by obtain ⟨a, _, rfl⟩ := List.mem_map.1 hr; rfl) jB (by simp only [maxLen]; omega)
theorem Bf {h : H} {a : Int} {m : Nat} (e : a = m) : Up h (.int a) (.i .i64 m) := e ▸ FB h _
theorem De {p q : Prop} (hp : p) (h : p → q := by
 apply cmp; (focus ((with_reducible apply EW); rfl; rfl; exact CY; exact hT2; (focus exact ⟨Ab (List.mem_cons_of_mem _ List.mem_cons_self) ⟨BJ (List.mem_cons_of_mem _ (List.mem_cons_of_mem _ List.mem_cons_self)) d.len jB, trivial⟩, Ab (List.mem_cons_of_mem _ (List.mem_cons_of_mem _ (List.mem_cons_of_mem _ List.mem_cons_self))) ⟨Dm _ _, trivial⟩, Ab List.mem_cons_self ⟨Bf rfl, trivial⟩, trivial⟩); rfl))
 exact fun h => h) : q := h hp
theorem RM {p q : Prop} (hp : p) (h : p → q := by
 apply cmp; (focus ((with_reducible apply EW); rfl; rfl; exact Ce; exact hT1; (focus exact ⟨Ab (List.mem_cons_of_mem _ List.mem_cons_self) ⟨BJ (List.mem_cons_of_mem _ (List.mem_cons_of_mem _ List.mem_cons_self)) d.len jB, trivial⟩, Ab List.mem_cons_self ⟨Bf rfl, trivial⟩, trivial⟩); rfl))
 exact fun h => h) : q := h hp
set_option maxHeartbeats 2000000 in
theorem QH (l : List Fo) (x : List Bool) (c : Int) : ACr Tryz.prog GP 78 [.d (AO l), .d (Ap x), .int c] (.tup [.d (Ap (A2 l x c).1), .int (A2 l x c).2]) := by
 have hA := aO l x.length
 have hE := Ends l
 generalize hes0 : Af l = q at hE
 obtain ⟨es, e2⟩ := q
 dsimp only at hE
 generalize he : Ac l x.length = p at hA
 obtain ⟨ps, e⟩ := p
 dsimp only at hA
 refine AK (ts := [6, 7]) 122 Tryz.func78 rfl rfl rfl (by simp) fun W I => ?_
 refine Bn (t := 0) rfl fun hl0 => ?_
 refine Bn (t := 1) rfl fun hl1 => ?_
 by_cases hc : e ≠ 0
 · repeat' (first | refine ca Ct (hA) ?_ | refine ca A1 (hE) ?_ | refine CI ?_ | refine RM ?_ | refine De ?_ | exact jA | refine stp ?_ | refine two ?_ ?_ | refine imp fun hc => ?_; try exact cx hc | refine all fun v_ => ?_)
   refine AI (Cj (t := 6) 1 1 rfl) ?_
   ((with_reducible apply rq2); rfl; rfl; rfl)
   refine AA ?_
   rw [A2, he, if_pos hc]; rfl
 have e0 : e = 0 := by simpa using hc
 subst e0
 obtain ⟨hF, hps⟩ := Ip he
 have g := Hf hF
 have h60 := g.h60
 have hpl : ps.length ≤ 6 := by rw [hps, Dw]; exact g.ah
 have hp6 := dq hpl
 have hs : A2 l x c = if c < 0 ∨ 2 ^ ps.length ≤ c then ([], 2) else ((List.range l.length).map (tAt l x c), 0) := by
  rw [A2, he]; rfl
 have hin : Ao (1 * 2 ^ ((ps.length : Int)).toNat) := by
  rw [Int.toNat_natCast]; unfold Ao; omega
 have hin' : (1 : Int) * 2 ^ ((ps.length : Int)).toNat = 2 ^ ps.length := by
  rw [Int.toNat_natCast, Int.one_mul]
 by_cases hcr : c < 0 ∨ 2 ^ ps.length ≤ c
 · repeat' (first | refine ca Ct (hA) ?_ | refine ca A1 (hE) ?_ | refine CI ?_ | refine RM ?_ | refine De ?_ | exact jA | refine stp ?_ | refine two ?_ ?_ | refine imp fun hc => ?_; try exact cx hc | refine all fun v_ => ?_)
   all_goals
    refine AI (Cj (t := 6) 1 1 rfl) ?_
    ((with_reducible apply rq2); rfl; rfl; rfl)
    refine AA ?_
    rw [hs, if_pos hcr]; rfl
 have hc0 : 0 ≤ c := by omega
 have hT1 := True.intro
 have hT2 := True.intro
 repeat' (first | refine ca Ct (hA) ?_ | refine ca A1 (hE) ?_ | refine CI ?_ | refine RM ?_ | refine De ?_ | exact jA | refine stp ?_ | refine two ?_ ?_ | refine imp fun hc => ?_; try exact cx hc | refine all fun v_ => ?_)
 rename_i b1 b' b2
 clear hT1 hT2
 have he2 : e2 = 0 := by have := g.ends; rw [hes0] at this; exact this
 subst he2
 obtain ⟨_, _, _, hlen, hes⟩ := B1 hes0
 refine AG (X := Nat × List Bool × Nat) (fun y => [(0, .d (AO l)), (1, .d (Ap x)), (2, .int c), (10, .val (.pointer (some ⟨b1, 0, none⟩))), (12, .val (.pointer (some ⟨b2, 0, none⟩))), (13, .int (BU l y.1 : Nat)), (14, .val (.pointer (some ⟨y.2.2, 0, none⟩)))])
  (fun y => [.cells y.2.2 3 [.int ((y.1 : Int) - 1)], .cells b2 109 [.val (.slice (some ⟨b', 0, none⟩) l.length l.length)], .cells b' 4 (y.2.1.map AV.bool), .cells b1 49 [.d (AJ es)]])
  (fun y => y.1 ≤ l.length ∧ GM l x c y.1 y.2.1) (fun y => y.1) (l.length, List.replicate l.length false, v_) ⟨Nat.le_refl _, GM.start l x c⟩ ?_ ?_
 · refine VS.of_le ?_
   have := Dw (l := l)
   rw [← hps] at this
   exact leD
 rintro ⟨i, out, b3⟩ ⟨k1, d⟩
 dsimp only at k1 d ⊢
 have ol := d.len
 cases i with
 | zero =>
   have hT1 := True.intro
   have hT2 := True.intro
   repeat' (first | refine ca Ct (hA) ?_ | refine ca A1 (hE) ?_ | refine CI ?_ | refine RM ?_ | refine De ?_ | exact jA | refine stp ?_ | refine two ?_ ?_ | refine imp fun hc => ?_; try exact cx hc | refine all fun v_ => ?_)
   refine AI (vfz (t := 6) (f := IA) (h1 := [_, _]) 1 1 rfl rfl rfl (GA out) d.len (fun _ => rfl) jB jB) ?_
   ((with_reducible apply rq2); rfl; rfl; rfl)
   refine AA ?_
   rw [hs, if_neg hcr, d.fin]
 | succ m =>
   have hi : m < l.length := by omega
   have hk := g.kind m hi
   have ht := Yp l x c m hi
   unfold Sp.stepT at ht
   rw [Aq l m hi, Ex l m hi] at ht
   have hm1 : ((m + 1 : Nat) : Int) - 1 = (m : Int) := by omega
   have hrk := Ek l m hi
   have hrl := Qs (l := l) (i := m + 1) jB
   have hr6 := g.ah
   rw [hm1]
   by_cases hA : l[m].kind = 13 ∨ l[m].kind = 11 ∨ l[m].kind = 12
   · rw [if_neg (show ¬ Ay l[m].kind by unfold Ay; omega), Nat.add_zero] at hrk
     have hT1 := True.intro
     have hT2 := True.intro
     have hv := g.prop m hi
     by_cases hk13 : l[m].kind = 13
     · obtain ⟨v0, v1⟩ := hv hk13
       repeat' (first | refine ca Ct (hA) ?_ | refine ca A1 (hE) ?_ | refine CI ?_ | refine RM ?_ | refine De ?_ | exact jA | refine stp ?_ | refine two ?_ ?_ | refine imp fun hc => ?_; try exact cx hc | refine all fun v_ => ?_)
       try simp only [Int.toNat_natCast, Nat.mul_one]
       refine ⟨(m, out.set m (x[l[m].val.toNat]'jB), v_), ⟨by dsimp only; omega, ?_⟩, jC, vle (.cons_cons _ (.cons _ (List.Sublist.refl _))) ?_⟩
       rotate_left
       · exact leD
       refine d.next hi ?_
       rw [ht, if_pos hk13, List.getElem?_eq_getElem jB]; rfl
     repeat' (first | refine ca Ct (hA) ?_ | refine ca A1 (hE) ?_ | refine CI ?_ | refine RM ?_ | refine De ?_ | exact jA | refine stp ?_ | refine two ?_ ?_ | refine imp fun hc => ?_; try exact cx hc | refine all fun v_ => ?_)
     · try simp only [Int.toNat_natCast, Nat.mul_one]
       refine ⟨(m, out.set m true, v_), ⟨by dsimp only; omega, ?_⟩, jC, vle (.cons_cons _ (.cons _ (List.Sublist.refl _))) ?_⟩
       rotate_left
       · exact leD
       refine d.next hi ?_
       rw [ht, if_neg hk13, if_pos jB]
     · try simp only [Int.toNat_natCast, Nat.mul_one]
       refine ⟨(m, out, v_), ⟨by dsimp only; omega, ?_⟩, jC, vle (.cons_cons _ (.cons _ (List.Sublist.refl _))) ?_⟩
       rotate_left
       · exact leD
       refine d.no hi ?_
       rw [ht, if_neg hk13, if_neg jB, if_pos jB]
   by_cases hB : l[m].kind = 10
   · rw [if_neg (show ¬ Ay l[m].kind by unfold Ay; omega), Nat.add_zero] at hrk
     obtain ⟨q1, q2, q3, q4, q5⟩ := DY hi (g.well m hi) (by rw [hB]; decide)
     have hT1 := VU GP out m jB jB
     rw [d.get (Nat.le_refl _) q1] at hT1
     have hT2 := True.intro
     repeat' (first | refine ca Ct (hA) ?_ | refine ca A1 (hE) ?_ | refine CI ?_ | refine RM ?_ | refine De ?_ | exact jA | refine stp ?_ | refine two ?_ ?_ | refine imp fun hc => ?_; try exact cx hc | refine all fun v_ => ?_)
     try simp only [Int.toNat_natCast, Nat.mul_one]
     refine ⟨(m, out.set m (!tAt l x c (m + 1)), v_), ⟨by dsimp only; omega, ?_⟩, jC, vle (.cons_cons _ (.cons _ (List.Sublist.refl _))) ?_⟩
     rotate_left
     · exact leD
     refine d.next hi ?_
     rw [ht, if_neg jB, if_neg jB, if_neg jB, if_pos hB]
   by_cases hC : l[m].kind = 8 ∨ l[m].kind = 9
   · rw [if_neg (show ¬ Ay l[m].kind by unfold Ay; omega), Nat.add_zero] at hrk
     obtain ⟨q1, q2, q3, q4, q5⟩ := DY hi (g.well m hi) (by rcases hC with h | h <;> rw [h] <;> decide)
     obtain ⟨r1, r2⟩ := D9 hi (g.well m hi) (by rcases hC with h | h <;> rw [h] <;> decide)
     have hT1 := VU GP out m jB jB
     rw [d.get (Nat.le_refl _) q1] at hT1
     have he1 : es[m + 1] = (second l m : Int) := by rw [hes (m + 1) jB, ← q4]
     have hT2 := dA GP out es m jB jB jB jB
     simp only [he1, Int.toNat_natCast] at hT2
     rw [d.get jB r1] at hT2
     rw [if_pos (show m < second l m by omega), if_neg jB, if_neg jB, if_neg jB, if_neg jB] at ht
     cases hgA : tAt l x c (m + 1) <;> cases hgB : tAt l x c (second l m) <;> rw [hgA] at hT1 ht <;> rw [hgB] at hT2 ht
     all_goals
      repeat' (first | refine ca Ct (hA) ?_ | refine ca A1 (hE) ?_ | refine CI ?_ | refine RM ?_ | refine De ?_ | exact jA | refine stp ?_ | refine two ?_ ?_ | refine imp fun hc => ?_; try exact cx hc | refine all fun v_ => ?_)
     all_goals first
      | (try simp only [Int.toNat_natCast, Nat.mul_one]
         refine ⟨(m, out.set m true, v_), ⟨by dsimp only; omega, ?_⟩, jC, vle (.cons_cons _ (.cons _ (List.Sublist.refl _))) ?_⟩
         rotate_left
         · exact leD
         refine d.next hi ?_
         rw [ht]
         first
          | (rw [if_pos jB]; rfl)
          | (rw [if_neg jB, if_pos jB]; rfl))
      | (try simp only [Int.toNat_natCast, Nat.mul_one]
         refine ⟨(m, out.set m false, v_), ⟨by dsimp only; omega, ?_⟩, jC, vle (.cons_cons _ (.cons _ (List.Sublist.refl _))) ?_⟩
         rotate_left
         · exact leD
         refine d.next hi ?_
         rw [ht]
         first
          | (rw [if_pos jB]; rfl)
          | (rw [if_neg jB, if_pos jB]; rfl))
   have hah : Ay l[m].kind := by unfold Ay; omega
   rw [if_pos hah] at hrk
   have hT1 := True.intro
   have hT2 := True.intro
   have hcd : 0 ≤ c / 2 ^ (BU l m) := Int.ediv_nonneg hc0 (by exact_mod_cast Nat.zero_le _)
   have hcd2 : c / 2 ^ (BU l m) ≤ c := Int.ediv_le_self _ hc0
   have hrm : ((BU l m : Nat) : Int).toNat = BU l m := Int.toNat_natCast _
   rw [show ((BU l (m + 1) : Nat) : Int) = (BU l m : Nat) + 1 by omega]
   repeat' (first | refine ca Ct (hA) ?_ | refine ca A1 (hE) ?_ | refine CI ?_ | refine RM ?_ | refine De ?_ | exact jA | refine stp ?_ | refine two ?_ ?_ | refine imp fun hc => ?_; try exact cx hc | refine all fun v_ => ?_)
   simp only [Int.add_sub_cancel, Int.toNat_natCast, Nat.mul_one, and1 hcd (show c / 2 ^ BU l m ≤ 9223372036854775807 by omega)]
   try simp only [Int.toNat_natCast, Nat.mul_one]
   refine ⟨(m, out.set m (decide (c / 2 ^ BU l m % 2 = 1)), v_), ⟨by dsimp only; omega, ?_⟩, jC, vle (.cons_cons _ (.cons _ (List.Sublist.refl _))) ?_⟩
   rotate_left
   · exact leD
   refine d.next hi ?_
   rw [ht, if_neg jB, if_neg jB, if_neg jB, if_neg jB, if_neg jB, if_neg jB]; rfl
end Go.Proofs.YtnlfhnbcdfdhgaaGreatDoor
namespace Go.Sp
open Go Go.Av
abbrev Iy (vs : List Int) (l : List St) (i : Nat) : Int := upd vs l i ((vs[i]?).getD 0)
theorem Us (vs : List Int) (l : List St) : CG vs l vs = (List.range vs.length).map (Iy vs l) := by
 refine List.ext_getElem? fun i => ?_
 rw [Hu, List.getElem?_map]
 by_cases h : i < vs.length
 · rw [List.getElem?_eq_getElem h, List.getElem?_range h]
   simp [Iy, List.getElem?_eq_getElem h]
 · rw [List.getElem?_eq_none jB, List.getElem?_eq_none (by simp; omega)]; rfl
theorem Kk {m : Md} {r : Ru} {vs : List Int} (h : BS r.guard vs ≠ (1, 0)) : CA m r vs = none := by
 rw [CA, if_neg fun k => h k.1]
theorem KG {m : Md} {r : Ru} {vs : List Int} {s : St} (hs : s ∈ r.sets) (h : ¬ IC m vs s) : CA m r vs = none := by
 rw [CA, if_neg fun k => h (k.2 s hs)]
theorem Ls {m : Md} {r : Ru} {vs : List Int} (h : BS r.guard vs = (1, 0)) (hs : ∀ s ∈ r.sets, IC m vs s) : CA m r vs = some (CG vs r.sets vs) := by
 rw [CA, if_pos ⟨h, hs⟩]
structure InV (m : Md) (vs : List Int) : Prop where
 len : vs.length = m.vars.length
 range : ∀ (i : Nat) (h : i < m.vars.length) (h' : i < vs.length), m.vars[i].low ≤ vs[i] ∧ vs[i] ≤ m.vars[i].high
theorem InV.vals {m : Md} (hm : AT m = 0) {c : Int} (h0 : 0 ≤ c) (hc : c < AR m.vars) : InV m (B2 m.vars c) :=
 ⟨FW _ _, fun i h h' => Sa (IW (BM hm)) h0 hc i h h'⟩
theorem InV.lim {m : Md} (hm : AT m = 0) {vs : List Int} (g : InV m vs) : ∀ v ∈ vs, AU v := fun v hv => by
 obtain ⟨i, h, rfl⟩ := List.getElem_of_mem hv
 have hl : i < m.vars.length := by have := g.len; omega
 have hr := g.range i hl h
 have hv := (IW (BM hm)).range m.vars[i] (jb hl)
 unfold Ed at hv
 unfold AU; omega
theorem ME {m : Md} (hm : AT m = 0) {vs : List Int} (h : vs.length = m.vars.length) : codeF m vs = DO 0 m.vars vs := by
 rw [codeF, if_neg (fun k => k hm), if_neg (fun k => k h)]
theorem SJ {m : Md} (hm : AT m = 0) {r : Ru} (hr : r ∈ m.rules) {vs : List Int} (g : InV m vs) (hs : ∀ s ∈ r.sets, IC m vs s) : (codeF m (CG vs r.sets vs)).2 = 0 := by
 have hl := DJ vs r.sets vs
 rw [ME hm (by rw [hl]; exact g.len)]
 refine LD _ _ _ fun i h h' => ?_
 have e := Hu vs r.sets vs i
 rw [List.getElem?_eq_getElem h', List.getElem?_eq_getElem jB] at e
 simp only [Option.map_some, Option.some.injEq] at e
 rw [e]
 rcases UH vs r.sets i vs[i] with u | ⟨s, h1, h2, h3⟩
 · rw [u]; exact g.range i h jB
 · rw [h3]; exact (hs s h1).2 _ (by rw [h2, List.getElem?_eq_getElem h])
theorem ZB {m : Md} (hm : AT m = 0) {r : Ru} (hr : r ∈ m.rules) {vs : List Int} (g : InV m vs) {s : St} (hs : s ∈ r.sets) (he : (BS s.val vs).2 = 0) (h : ¬ IC m vs s) : codeF m (CG vs r.sets vs) = (0, 9) := by
 have hl := DJ vs r.sets vs
 rw [ME hm (by rw [hl]; exact g.len)]
 have gr := Ym hm hr
 obtain ⟨a1, a2, a3⟩ := gr.sets s hs
 have hi : s.var.toNat < m.vars.length := by omega
 have hiv : s.var.toNat < vs.length := by rw [g.len]; exact hi
 refine Sb _ _ _ s.var.toNat hi (by rw [hl]; exact hiv) fun k => h ⟨he, fun v hv => ?_⟩
 have e := Hu vs r.sets vs s.var.toNat
 rw [List.getElem?_eq_getElem (by rw [hl]; exact hiv), List.getElem?_eq_getElem hiv] at e
 simp only [Option.map_some, Option.some.injEq] at e
 rw [e, VV vs r.sets _ _ s (fun q hq => (gr.sets q hq).1) gr.once hs rfl] at k
 rw [List.getElem?_eq_getElem hi] at hv
 cases hv
 exact k
theorem W4 {m : Md} (hm : AT m = 0) {r : Ru} (hr : r ∈ m.rules) {vs : List Int} (g : InV m vs) (hg : BS r.guard vs = (1, 0)) (he : ∀ s ∈ r.sets, (BS s.val vs).2 = 0) :
 ((codeF m (CG vs r.sets vs)).2 = 0 ∧ CA m r vs = some (CG vs r.sets vs)) ∨ ((codeF m (CG vs r.sets vs)).2 ≠ 0 ∧ CA m r vs = none) := by
 by_cases h : ∀ s ∈ r.sets, IC m vs s
 · exact .inl ⟨SJ hm hr g h, Ls hg h⟩
 · obtain ⟨s, hs⟩ := Classical.not_forall.1 h
   obtain ⟨h1, h2⟩ := Classical.not_imp.1 hs
   exact .inr ⟨by rw [ZB hm hr g h1 (he s h1) h2]; decide, KG h1 h2⟩
theorem Jf (vs : List Int) : ∀ (a b : List St) (out : List Int), CG vs (a ++ b) out = CG vs b (CG vs a out)
 | [], _, _ => rfl
 | s :: a, b, out => by rw [List.cons_append, CG, CG, Jf vs a b]
theorem Sn (vs : List Int) (l : List St) (i : Nat) (h : i < l.length) : CG vs (l.take (i + 1)) vs = (CG vs (l.take i) vs).set l[i].var.toNat (BS l[i].val vs).1 := by
 rw [jZ h, Jf]; rfl
theorem gJ (vs : List Int) (l : List St) (k : Nat) (h : k < l.length) (i : Nat) (x : Int) : upd vs (l.drop k) i x = upd vs (l.drop (k + 1)) i (if l[k].var.toNat = i then (BS l[k].val vs).1 else x) := by
 rw [ja h, upd]
theorem dR (vs : List Int) (l : List St) (k : Nat) (h : l.length ≤ k) (i : Nat) (x : Int) : upd vs (l.drop k) i x = x := by
 rw [List.drop_of_length_le h, upd]
theorem Xl {m : Md} {vs : List Int} {s : St} {n e : Int} (he : BS s.val vs = (n, e)) (h : s.var.toNat < m.vars.length) : IC m vs s ↔ (e = 0 ∧ m.vars[s.var.toNat].low ≤ n ∧ n ≤ m.vars[s.var.toNat].high) := by
 unfold IC
 rw [he]
 constructor
 · rintro ⟨h1, h2⟩
   exact ⟨h1, h2 _ (List.getElem?_eq_getElem h)⟩
 · rintro ⟨h1, h2⟩
   refine ⟨h1, fun v hv => ?_⟩
   rw [List.getElem?_eq_getElem h] at hv
   cases hv
   exact h2
theorem Xi {m : Md} {code Dj : Int} {vs : List Int} (hv : BK m code = (vs, 0)) (h : ¬ (0 ≤ Dj ∧ Dj < m.rules.length)) : Gq m code Dj = (0, 2) := by
 unfold Gq
 rw [hv, if_neg (by simp)]
 by_cases h0 : 0 ≤ Dj
 · rw [if_pos h0, List.getElem?_eq_none jB]
 · rw [if_neg h0]
theorem Mq {m : Md} {code Dj : Int} {vs : List Int} (hv : BK m code = (vs, 0)) (h0 : 0 ≤ Dj) (h : Dj.toNat < m.rules.length) : Gq m code Dj = match CA m m.rules[Dj.toNat] vs with
 | none => (0, 11)
 | some out => codeF m out := by
 unfold Gq
 rw [hv, if_neg (by simp), if_pos h0, List.getElem?_eq_getElem h]
 all_goals (try dsimp only)
 all_goals (cases CA m m.rules[Dj.toNat] vs <;> rfl)
theorem Kh {m : Md} {c : Int} (h : (BK m c).2 = 0) : AT m = 0 ∧ 0 ≤ c ∧ c < AR m.vars ∧ BK m c = (B2 m.vars c, 0) := by
 unfold BK at h ⊢
 by_cases c1 : AT m ≠ 0
 · rw [if_pos c1] at h; exact absurd h c1
 rw [if_neg c1] at h ⊢
 by_cases c2 : 0 ≤ c ∧ c < AR m.vars
 · rw [if_pos c2]; exact ⟨jY c1, c2.1, c2.2, rfl⟩
 · rw [if_neg c2] at h; exact absurd h (by decide)
theorem Ud {m : Md} {code Dj : Int} (h : (BK m code).2 ≠ 0) : Gq m code Dj = (0, (BK m code).2) := by
 unfold Gq; rw [if_pos h]
end Go.Sp
namespace Go.Av
open Go Go.Sort Go.Proofs Go.Sp
abbrev Ba (l : List Int) : List Int := l.mergeSort fun x y => decide (x ≤ y)
theorem LI {w : World} {I : Nat → Prop} : ∀ {xs : List Int} {us : List Value}, AV.rels w I ((xs.map AS).flatten.map D.av) us → us = xs.map (Value.int .i64)
 | [], [], _ => rfl
 | [], _ :: _, h => h.elim
 | x :: xs, [], h => h.elim
 | x :: xs, u :: us, h => by
   obtain ⟨h1, h2⟩ := h
   rw [List.map_cons, ← LI h2, show u = .int .i64 x from h1]
theorem LR (w : World) (I : Nat → Prop) : ∀ xs : List Int, AV.rels w I ((xs.map AS).flatten.map D.av) (xs.map (Value.int .i64))
 | [] => trivial
 | x :: xs => ⟨rfl, LR w I xs⟩
theorem aE {P : Program} {G : List (Nat × List D)} {f : FuncId} {E : TypeId} (q : Sl) (xs : List Int) (hbig : xs.length < 4611686018427387904)
 (hc : ∀ (blk cap : Nat) (zs : List Int) (w : World), Holds (Value.int .i64) w blk 0 zs.toArray → blk < w.heap.size → zs.length < 4611686018427387904 → Calls P f #[.slice (some ⟨blk, 0, none⟩) zs.length cap] w fun e w' => e = .returned (.tuple #[]) ∧ ∃ n os, w' = grow (putRow (Value.int .i64) (Sort.ahead w n) blk 0 (Ba zs).toArray) os)
 (hn : ∀ w : World, Calls P f #[.slice none 0 0] w fun e w' => e = .returned (.tuple #[]) ∧ w' = w) :
 AC P G f [.val q.v] [AL q.v E 1 AS xs] fun e h => e = .ret (.tup []) ∧ h = [AL q.v E 1 AS (Ba xs)] := by
 intro I W vs h1 h2 h3 h4 h5
 obtain ⟨v, rfl⟩ : ∃ v, vs = [v] := by
  cases vs with
  | nil => exact h5.elim
  | cons v t => cases t with
    | nil => exact ⟨v, rfl⟩
    | cons _ _ => exact h5.2.elim
 obtain rfl : v = q.v := h5.1
 obtain ⟨us, ho, hr⟩ := h1 _ List.mem_cons_self
 obtain rfl := LI hr
 have hls : (Ba xs).length = xs.length := List.length_mergeSort _
 rcases ho.2 with ⟨e1, e2⟩ | ⟨g, cap, cur, e1, e2, e3, e4, e5, e6, e7⟩
 · obtain rfl : xs = [] := List.length_eq_zero_iff.1 e2
   have hz : Ba ([] : List Int) = [] := by simp [Ba]
   rw [e1, hz]
   refine (hn W).mono ?_
   rintro e w' ⟨rfl, rfl⟩
   refine ⟨_, _, I, ⟨rfl, rfl⟩, ⟨fun e he => ?_, List.nodup_nil, fun b hb => ⟨(h3 b hb).1, (fun k => by cases k)⟩, fun b hb => (by cases hb), fun b hb => .inl hb, fun b hb => hb, rfl, rfl, rfl, Nat.le_refl _, fun _ _ _ => rfl, h4⟩, ⟨[], rfl, trivial⟩⟩
   obtain rfl := List.mem_singleton.1 he
   exact ⟨[], ⟨rfl, .inl ⟨rfl, rfl⟩⟩, trivial⟩
 · have hq : q = ⟨some ⟨g, 0, none⟩, xs.length, cap⟩ := by
    have h := e1
    simp only [Sl.v, Value.slice.injEq] at h
    obtain ⟨a, b, c⟩ := h
    cases q; simp_all
   subst hq
   have hbl : ∀ ys : List Int, blks [AL (Sl.v ⟨some ⟨g, 0, none⟩, xs.length, cap⟩) E 1 AS ys] = [g] := fun ys => rfl
   have hgs : g < W.heap.size := (Array.getElem?_eq_some_iff.1 e3).1
   refine (hc g cap xs W (holds_of_blockI e3 (by rw [Nat.mul_one] at e7; exact e7)) hgs hbig).mono ?_
   rintro e w' ⟨rfl, n, os, rfl⟩
   have hg := grownBy_sortedI (w := W) (g := g) (n := n) (os := os) (Ba xs).toArray
   have hkeep : ∀ b, I b → (grow (putRow (Value.int .i64) (Sort.ahead W n) g 0 (Ba xs).toArray) os).heap[b]? = W.heap[b]? := fun b hb => by
    refine hg.block b (h3 b hb).1 fun e => ?_
    have := (h3 b hb).2
    rw [hbl] at this
    exact this (by rw [Option.some.inj e]; exact List.mem_singleton.2 rfl)
   refine ⟨_, _, I, ⟨rfl, rfl⟩, ⟨fun e he => ?_, ?_, fun b hb => ⟨Nat.lt_of_lt_of_le (h3 b hb).1 hg.size, ?_⟩, fun b hb => ?_, fun b hb => .inl hb, fun b hb => hb, hg.os, hg.tape, hg.output, hg.size, fun b hb hne => ?_, fun q hq => PD.mono hkeep (fun _ h => h) (h4 q hq)⟩, ⟨[], rfl, trivial⟩⟩
   · obtain rfl := List.mem_singleton.1 he
     have hos := ownsRow_sortedI (n := n) (os := os) (base := 0) hls (Nat.zero_le g) e3 e4 e5 e6
     refine ⟨(Ba xs).map (Value.int .i64), ?_, LR _ _ _⟩
     rw [hls]; exact hos
   · rw [hbl]; simp
   · have := (h3 b hb).2
     rw [hbl] at this ⊢; exact this
   · rw [hbl] at hb; rw [hbl]; exact .inl hb
   · refine hg.block b hb fun e => hne ?_
     rw [hbl, Option.some.inj e]; exact List.mem_singleton.2 rfl
theorem S3 {P : Program} {G : List (Nat × List D)} {f : FuncId} {E : TypeId} (q : Sl) (xs : List Int) (hbig : xs.length ≤ 9223372036854775807) (hk : (Lib.compact xs).length ≤ xs.length)
 (hc : ∀ (blk cap : Nat) (zs : List Int) (w : World), Holds (Value.int .i64) w blk 0 zs.toArray → zs.length ≤ 9223372036854775807 → zs.length ≤ cap → Calls P f #[.slice (some ⟨blk, 0, none⟩) zs.length cap] w fun e w' => e = .returned (.slice (some ⟨blk, 0, none⟩) (Lib.compact zs).length cap) ∧ ∃ q, w' = putRow (Value.int .i64) (Sort.ahead w q) blk 0 (Lib.compact zs ++ List.replicate (zs.length - (Lib.compact zs).length) 0).toArray)
 (hn : ∀ w : World, Calls P f #[.slice none 0 0] w fun e w' => e = .returned (.slice none 0 0) ∧ w' = w) :
 AC P G f [.val q.v] [AL q.v E 1 AS xs] fun e h => ∃ q' : Sl, e = .ret (.val q'.v) ∧ h = [AL q'.v E 1 AS (Lib.compact xs)] := by
 intro I W vs h1 h2 h3 h4 h5
 obtain ⟨v, rfl⟩ : ∃ v, vs = [v] := by
  cases vs with
  | nil => exact h5.elim
  | cons v t => cases t with
    | nil => exact ⟨v, rfl⟩
    | cons _ _ => exact h5.2.elim
 obtain rfl : v = q.v := h5.1
 obtain ⟨us, ho, hr⟩ := h1 _ List.mem_cons_self
 obtain rfl := LI hr
 rcases ho.2 with ⟨e1, e2⟩ | ⟨g, cap, cur, e1, e2, e3, e4, e5, e6, e7⟩
 · obtain rfl : xs = [] := List.length_eq_zero_iff.1 e2
   rw [e1]
   refine (hn W).mono ?_
   rintro e w' ⟨rfl, rfl⟩
   refine ⟨_, _, I, ⟨Sl.nil, rfl, rfl⟩, ⟨fun e he => ?_, List.nodup_nil, fun b hb => ⟨(h3 b hb).1, (fun k => by cases k)⟩, fun b hb => (by cases hb), fun b hb => .inl hb, fun b hb => hb, rfl, rfl, rfl, Nat.le_refl _, fun _ _ _ => rfl, h4⟩, rfl⟩
   obtain rfl := List.mem_singleton.1 he
   exact ⟨[], ⟨rfl, .inl ⟨rfl, rfl⟩⟩, trivial⟩
 · have hq : q = ⟨some ⟨g, 0, none⟩, xs.length, cap⟩ := by
    have h := e1
    simp only [Sl.v, Value.slice.injEq] at h
    obtain ⟨a, b, c⟩ := h
    cases q; simp_all
   subst hq
   have hbl : ∀ (n : Nat) (ys : List Int), blks [AL (Sl.v ⟨some ⟨g, 0, none⟩, n, cap⟩) E 1 AS ys] = [g] := fun n ys => rfl
   refine (hc g cap xs W (holds_of_blockI e3 (by rw [Nat.mul_one] at e7; exact e7)) hbig e4).mono ?_
   rintro e w' ⟨rfl, n, rfl⟩
   generalize hys : Lib.compact xs ++ List.replicate (xs.length - (Lib.compact xs).length) 0 = ys
   have hyl : ys.length = xs.length := by rw [← hys, List.length_append, List.length_replicate]; omega
   have hg := grownBy_sortedI (w := W) (g := g) (n := n) (os := #[]) ys.toArray
   have hh := heap_sortedI (w := W) (g := g) (n := n) (os := #[]) ys.toArray e3
   rw [grow_empty] at hg hh
   have hkeep : ∀ b, I b → (putRow (Value.int .i64) (Sort.ahead W n) g 0 ys.toArray).heap[b]? = W.heap[b]? := fun b hb => by
    refine hg.block b (h3 b hb).1 fun e => ?_
    have := (h3 b hb).2
    rw [hbl] at this
    exact this (by rw [Option.some.inj e]; exact List.mem_singleton.2 rfl)
   refine ⟨_, _, I, ⟨⟨some ⟨g, 0, none⟩, (Lib.compact xs).length, cap⟩, rfl, rfl⟩, ⟨fun e he => ?_, ?_, fun b hb => ⟨Nat.lt_of_lt_of_le (h3 b hb).1 hg.size, ?_⟩, fun b hb => ?_, fun b hb => .inl hb, fun b hb => hb, hg.os, hg.tape, hg.output, hg.size, fun b hb hne => ?_, fun q hq => PD.mono hkeep (fun _ h => h) (h4 q hq)⟩, rfl⟩
   · obtain rfl := List.mem_singleton.1 he
     have ht := take_putCellsI cur ys (by rw [hyl]; omega)
     refine ⟨(Lib.compact xs).map (Value.int .i64), ⟨by simp, .inr ⟨g, cap, _, rfl, Nat.zero_le _, hh, by omega, e5, by simp [putCells, e6], ?_⟩⟩, LR _ _ _⟩
     have h := congrArg (List.take (Lib.compact xs).length) ht
     rw [List.take_take, Nat.min_eq_left jB, ← List.map_take, ← hys, List.take_left] at h
     rw [Nat.mul_one]; rw [← hys]; exact h
   · rw [hbl]; simp
   · have := (h3 b hb).2
     rw [hbl] at this ⊢; exact this
   · rw [hbl] at hb; rw [hbl]; exact .inl hb
   · refine hg.block b hb fun e => hne ?_
     rw [hbl, Option.some.inj e]; exact List.mem_singleton.2 rfl
end Go.Av
namespace Go.Sp
open Go Go.Av
def HJ (n : Nat) (l : List Int) : List Int := ((List.range n).filter fun c : Nat => decide ((c : Int) ∈ l)).map Int.ofNat
theorem R8 {n : Nat} {l : List Int} (h : ∀ x ∈ l, 0 ≤ x ∧ x < n) (x : Int) : x ∈ HJ n l ↔ x ∈ l := by
 unfold HJ
 simp only [List.mem_map, List.mem_filter, List.mem_range, decide_eq_true_eq]
 constructor
 · rintro ⟨c, ⟨_, hc⟩, rfl⟩; exact hc
 · intro hx
   obtain ⟨h0, h1⟩ := h x hx
   exact ⟨x.toNat, ⟨by omega, by rwa [Int.toNat_of_nonneg h0]⟩, Int.toNat_of_nonneg h0⟩
theorem Va (n : Nat) (l : List Int) : (HJ n l).Pairwise (· < ·) := by
 unfold HJ
 rw [List.pairwise_map]
 exact (List.pairwise_lt_range.filter _).imp fun h => Int.ofNat_lt.2 h
theorem Nr {n : Nat} {l : List Int} {x : Int} (h : x ∈ HJ n l) : 0 ≤ x ∧ x < n ∧ x ∈ l := by
 unfold HJ at h
 simp only [List.mem_map, List.mem_filter, List.mem_range, decide_eq_true_eq] at h
 obtain ⟨c, ⟨h1, h2⟩, rfl⟩ := h
 exact ⟨Int.natCast_nonneg c, Int.ofNat_lt.2 h1, h2⟩
theorem eJ : ∀ {a b : List Int}, a.Pairwise (· < ·) → b.Pairwise (· < ·) → (∀ x, x ∈ a ↔ x ∈ b) → a = b
 | [], [], _, _, _ => rfl
 | [], y :: b, _, _, h => by cases (h y).2 List.mem_cons_self
 | x :: a, [], _, _, h => by cases (h x).1 List.mem_cons_self
 | x :: a, y :: b, ha, hb, h => by
   rw [List.pairwise_cons] at ha hb
   have e : x = y := by
    rcases List.mem_cons.1 ((h x).1 List.mem_cons_self) with e | e
    · exact e
    rcases List.mem_cons.1 ((h y).2 List.mem_cons_self) with e' | e'
    · exact e'.symm
    have h1 := ha.1 y e'
    have h2 := hb.1 x e
    omega
   subst e
   refine congrArg (x :: ·) (eJ ha.2 hb.2 fun z => ?_)
   constructor
   · intro hz
     rcases List.mem_cons.1 ((h z).1 (List.mem_cons_of_mem _ hz)) with e | e
     · have := ha.1 z hz; omega
     · exact e
   · intro hz
     rcases List.mem_cons.1 ((h z).2 (List.mem_cons_of_mem _ hz)) with e | e
     · have := hb.1 z hz; omega
     · exact e
theorem KJ (zs : List Int) (hs : zs.Pairwise (· ≤ ·)) : ∀ m, m ≤ zs.length → (Lib.compactUpTo zs.toArray m).Pairwise (· < ·) ∧ (∀ x, x ∈ Lib.compactUpTo zs.toArray m ↔ ∃ j, j < m ∧ zs.toArray[j]! = x)
 | 0, _ => ⟨by simp [Lib.compactUpTo], fun x => by simp [Lib.compactUpTo]⟩
 | m + 1, hm => by
   obtain ⟨i1, i2⟩ := KJ zs hs m jB
   have hat : ∀ j (h : j < zs.length), zs.toArray[j]! = zs[j] := fun j h => by simp [h]
   have hle : ∀ i j (h : j < zs.length), i ≤ j → zs.toArray[i]! ≤ zs.toArray[j]! := fun i j h hij => by
    rw [hat j h, hat i jB]
    rcases Nat.lt_or_eq_of_le hij with hl | rfl
    · exact List.pairwise_iff_getElem.1 hs i j jB h hl
    · exact Int.le_refl _
   rw [Lib.compactUpTo_succ]
   by_cases hk : Lib.keeps zs.toArray m = true
   · rw [if_pos hk]
     have hlt : ∀ x ∈ Lib.compactUpTo zs.toArray m, x < zs.toArray[m]! := fun x hx => by
      obtain ⟨j, hj, rfl⟩ := (i2 x).1 hx
      have h1 := hle j (m - 1) jB jB
      have h2 := hle (m - 1) m jB jB
      unfold Lib.keeps at hk
      have h3 : zs.toArray[m]! ≠ zs.toArray[m - 1]! := by
       rcases of_decide_eq_true hk with h | h
       · omega
       · exact h
      omega
     refine ⟨List.pairwise_append.2 ⟨i1, List.pairwise_singleton _ _, fun a ha b hb => ?_⟩, fun x => ?_⟩
     · rw [List.mem_singleton.1 hb]; exact hlt a ha
     · rw [List.mem_append, List.mem_singleton, i2]
       constructor
       · rintro (⟨j, hj, rfl⟩ | rfl)
         · exact ⟨j, by omega, rfl⟩
         · exact ⟨m, by omega, rfl⟩
       · rintro ⟨j, hj, rfl⟩
         rcases Nat.lt_or_eq_of_le (Nat.lt_succ_iff.1 hj) with h | rfl
         · exact .inl ⟨j, h, rfl⟩
         · exact .inr rfl
   · rw [if_neg hk, List.append_nil]
     refine ⟨i1, fun x => ?_⟩
     have hk' : m ≠ 0 ∧ zs.toArray[m]! = zs.toArray[m - 1]! := by
      unfold Lib.keeps at hk
      rw [decide_eq_true_eq] at hk
      exact ⟨fun h => hk (.inl h), jY fun h => hk (.inr h)⟩
     rw [i2]
     constructor
     · rintro ⟨j, hj, rfl⟩; exact ⟨j, by omega, rfl⟩
     · rintro ⟨j, hj, rfl⟩
       rcases Nat.lt_or_eq_of_le (Nat.lt_succ_iff.1 hj) with h | rfl
       · exact ⟨j, h, rfl⟩
       · exact ⟨j - 1, by omega, hk'.2.symm⟩
theorem KW (l : List Int) : (Ba l).Pairwise (· ≤ ·) := by
 have h := List.pairwise_mergeSort (le := fun x y : Int => decide (x ≤ y)) (fun a b c h1 h2 => decide_eq_true (Int.le_trans (of_decide_eq_true h1) (of_decide_eq_true h2))) (fun a b => by
  rcases Int.le_total a b with h | h
  · simp [h]
  · simp [h]) l
 exact h.imp fun h => of_decide_eq_true h
theorem Ws (l : List Int) (x : Int) : x ∈ Ba l ↔ x ∈ l := List.mem_mergeSort
theorem RJ (l : List Int) : (Ba l).length = l.length := List.length_mergeSort _
theorem LO (l : List Int) (x : Int) : x ∈ Lib.compact (Ba l) ↔ x ∈ l := by
 unfold Lib.compact
 rw [(KJ _ (KW l) _ (Nat.le_refl _)).2, ← Ws l x]
 constructor
 · rintro ⟨j, hj, rfl⟩
   rw [show (Ba l).toArray[j]! = (Ba l)[j] by simp [List.getElem?_eq_getElem hj]]
   exact jb hj
 · intro h
   obtain ⟨j, hj, rfl⟩ := List.getElem_of_mem h
   exact ⟨j, hj, by simp [List.getElem?_eq_getElem hj]⟩
theorem Qk (n : Nat) (l : List Int) (h : ∀ x ∈ l, 0 ≤ x ∧ x < n) : Lib.compact (Ba l) = HJ n l :=
 eJ (KJ _ (KW l) _ (Nat.le_refl _)).1 (Va n l) fun x => by rw [R8 h]; exact LO l x
theorem Lr : ∀ (l : List Vr) (xs : List Int) (n p : Int), (∀ v ∈ l, 1 ≤ BL v) → xs.length = l.length → 0 ≤ n → n + 1 ≤ p → (DO n l xs).2 = 0 → 0 ≤ (DO n l xs).1 ∧ (DO n l xs).1 + 1 ≤ p * AR l
 | [], [], n, p, _, _, h0, h1, _ => by simp only [DO, AR, Int.mul_one]; exact ⟨h0, h1⟩
 | [], _ :: _, _, _, _, h, _, _, _ => by simp at h
 | _ :: _, [], _, _, _, h, _, _, _ => by simp at h
 | v :: l, x :: xs, n, p, hs, hl, h0, h1, h2 => by
   rw [DO] at h2 ⊢
   by_cases c : v.low ≤ x ∧ x ≤ v.high
   · rw [if_pos c] at h2 ⊢
     have hv := hs v List.mem_cons_self
     obtain ⟨_, s1, s2⟩ := Lk (s := BL v) (d := x - v.low) h0 h1 jB (by unfold BL; omega)
     have ih := Lr l xs _ _ (fun w hw => hs w (List.mem_cons_of_mem _ hw)) (by simpa using hl) s1 s2 h2
     rw [AR, ← Int.mul_assoc]
     exact ih
   · rw [if_neg c] at h2; exact absurd h2 (by decide)
theorem Li {m : Md} (hm : AT m = 0) {xs : List Int} (hl : xs.length = m.vars.length) (h : (codeF m xs).2 = 0) : 0 ≤ (codeF m xs).1 ∧ (codeF m xs).1 < AR m.vars := by
 rw [ME hm hl] at h ⊢
 have := Lr m.vars xs 0 1 (fun v hv => ((IW (BM hm)).span v hv).1) hl (Int.le_refl _) jB h
 omega
noncomputable def B6 (m : Md) (vs : List Int) (l : List Ru) : List Int := l.filterMap fun r => (CA m r vs).map fun out => (codeF m out).1
theorem MW {m : Md} (hm : AT m = 0) {r : Ru} (hr : r ∈ m.rules) {vs : List Int} (g : InV m vs) {out : List Int} (h : CA m r vs = some out) : out.length = m.vars.length ∧ (codeF m out).2 = 0 ∧ 0 ≤ (codeF m out).1 ∧ (codeF m out).1 < AR m.vars := by
 unfold CA at h
 by_cases c : BS r.guard vs = (1, 0) ∧ ∀ s ∈ r.sets, IC m vs s
 · rw [if_pos c] at h
   cases h
   have hl : (CG vs r.sets vs).length = m.vars.length := by rw [DJ]; exact g.len
   have h2 := SJ hm hr g c.2
   exact ⟨hl, h2, Li hm hl h2⟩
 · rw [if_neg c] at h; cases h
theorem Kb {m : Md} (hm : AT m = 0) {vs : List Int} (g : InV m vs) : ∀ x ∈ B6 m vs m.rules, 0 ≤ x ∧ x < AR m.vars := by
 intro x hx
 obtain ⟨r, hr, h⟩ := List.mem_filterMap.1 hx
 cases ha : CA m r vs with
 | none => rw [ha] at h; cases h
 | some out =>
   rw [ha] at h
   cases h
   exact (MW hm hr g ha).2.2
noncomputable def D3 (m : Md) (c : Int) : List Int × Int :=
 if (BK m c).2 ≠ 0 then ([], (BK m c).2)
 else (if B6 m (BK m c).1 m.rules = [] then [c] else HJ (AR m.vars).toNat (B6 m (BK m c).1 m.rules), 0)
end Go.Sp
