/- A bundle of this claim's own texts: T11. -/
import Derived.Test.YtajnpfgelpkijaaGreatDoorA18
set_option linter.unusedVariables false
set_option linter.unusedSimpArgs false
set_option maxRecDepth 100000
set_option maxHeartbeats 4000000
namespace Go.Proofs.YtajnpfgelpkijaaGreatDoor
open Go Go.Av Go.Sp

theorem Ax {h : H} {b n : Nat} {E : TypeId} {out : List Bool} (hm : Ent.cells b E (out.map AV.bool) ∈ h) (hn : out.length = n) (hb : n ≤ 1000000) : XF h (.val (.slice (some ⟨b, 0, none⟩) n n)) (Bv out) :=
 aA hm (by decide) (Es out) (by simpa using hn) (fun r hr => by obtain ⟨a, _, rfl⟩ := List.mem_map.1 hr; rfl) (by omega) (by simp only [maxLen]; omega)
theorem BD {h : H} {a : Int} {m : Nat} (e : a = m) : XF h (.int a) (.i .i64 m) := e ▸ YQ h _
set_option maxHeartbeats 2000000 in
theorem PO (l : List Fo) (x : List Bool) (c : Int) : ACr Tryz.prog GP 98 [.d (AN l), .d (Bv x), .int c] (.tup [.d (Bv (BL l x c).1), .int (BL l x c).2]) := by
 have hA := aB l x.length
 have hE := Ends l
 generalize hes0 : Az l = q at hE
 obtain ⟨es, e2⟩ := q
 dsimp only at hE
 generalize he : Ak l x.length = p at hA
 obtain ⟨ps, e⟩ := p
 dsimp only at hA
 refine AK (ts := [6, 7]) 122 Tryz.func98 rfl rfl rfl (by simp) fun W I => ?_
 refine EC (t := 0) rfl fun hl0 => ?_
 refine EC (t := 1) rfl fun hl1 => ?_
 by_cases hc : e ≠ 0
 · repeat' (first
    | refine ca CK (hA) ?_
    | refine ca An (hE) ?_
    | refine BX ?_
    | ((with_reducible apply Dg); (focus rfl); (focus rfl); (focus exact B8); (focus exact hT1); (focus exact ⟨Ac (List.mem_cons_of_mem _ List.mem_cons_self) ⟨Ax (List.mem_cons_of_mem _ (List.mem_cons_of_mem _ List.mem_cons_self)) d.len (by omega), trivial⟩, Ac List.mem_cons_self ⟨BD rfl, trivial⟩, trivial⟩); (focus rfl))
    | ((with_reducible apply Dg); (focus rfl); (focus rfl); (focus exact B5); (focus exact hT2); (focus exact ⟨Ac (List.mem_cons_of_mem _ List.mem_cons_self) ⟨Ax (List.mem_cons_of_mem _ (List.mem_cons_of_mem _ List.mem_cons_self)) d.len (by omega), trivial⟩, Ac (List.mem_cons_of_mem _ (List.mem_cons_of_mem _ (List.mem_cons_of_mem _ List.mem_cons_self))) ⟨F6 _ _, trivial⟩, Ac List.mem_cons_self ⟨BD rfl, trivial⟩, trivial⟩); (focus rfl))
    | exact True.intro
    | refine stp ?_
    | refine two ?_ ?_
    | (refine imp fun hc => ?_) <;> try exact cx hc
    | refine all fun v_ => ?_)
   refine AO (Ft (t := 6) 1 1 rfl) ?_
   ((with_reducible apply rq2); rfl; rfl; rfl)
   refine AD ?_
   rw [BL, he, if_pos hc]; rfl
 have e0 : e = 0 := by simpa using hc
 subst e0
 obtain ⟨hF, hps⟩ := KN he
 have g := Hg hF
 have h60 := g.h60
 have hpl : ps.length ≤ 6 := by rw [hps, Di]; exact g.ah
 have hp6 := gq hpl
 have hs : BL l x c = if c < 0 ∨ 2 ^ ps.length ≤ c then ([], 2) else ((List.range l.length).map (tAt l x c), 0) := by
  rw [BL, he]; rfl
 have hin : Aj (1 * 2 ^ ((ps.length : Int)).toNat) := by
  rw [Int.toNat_natCast]; unfold Aj; omega
 have hin' : (1 : Int) * 2 ^ ((ps.length : Int)).toNat = 2 ^ ps.length := by
  rw [Int.toNat_natCast, Int.one_mul]
 by_cases hcr : c < 0 ∨ 2 ^ ps.length ≤ c
 · repeat' (first
    | refine ca CK (hA) ?_
    | refine ca An (hE) ?_
    | refine BX ?_
    | ((with_reducible apply Dg); (focus rfl); (focus rfl); (focus exact B8); (focus exact hT1); (focus exact ⟨Ac (List.mem_cons_of_mem _ List.mem_cons_self) ⟨Ax (List.mem_cons_of_mem _ (List.mem_cons_of_mem _ List.mem_cons_self)) d.len (by omega), trivial⟩, Ac List.mem_cons_self ⟨BD rfl, trivial⟩, trivial⟩); (focus rfl))
    | ((with_reducible apply Dg); (focus rfl); (focus rfl); (focus exact B5); (focus exact hT2); (focus exact ⟨Ac (List.mem_cons_of_mem _ List.mem_cons_self) ⟨Ax (List.mem_cons_of_mem _ (List.mem_cons_of_mem _ List.mem_cons_self)) d.len (by omega), trivial⟩, Ac (List.mem_cons_of_mem _ (List.mem_cons_of_mem _ (List.mem_cons_of_mem _ List.mem_cons_self))) ⟨F6 _ _, trivial⟩, Ac List.mem_cons_self ⟨BD rfl, trivial⟩, trivial⟩); (focus rfl))
    | exact True.intro
    | refine stp ?_
    | refine two ?_ ?_
    | (refine imp fun hc => ?_) <;> try exact cx hc
    | refine all fun v_ => ?_)
   all_goals
    refine AO (Ft (t := 6) 1 1 rfl) ?_
    ((with_reducible apply rq2); rfl; rfl; rfl)
    refine AD ?_
    rw [hs, if_pos hcr]; rfl
 have hc0 : 0 ≤ c := by omega
 have hT1 := True.intro
 have hT2 := True.intro
 repeat' (first
  | refine ca CK (hA) ?_
  | refine ca An (hE) ?_
  | refine BX ?_
  | ((with_reducible apply Dg); (focus rfl); (focus rfl); (focus exact B8); (focus exact hT1); (focus exact ⟨Ac (List.mem_cons_of_mem _ List.mem_cons_self) ⟨Ax (List.mem_cons_of_mem _ (List.mem_cons_of_mem _ List.mem_cons_self)) d.len (by omega), trivial⟩, Ac List.mem_cons_self ⟨BD rfl, trivial⟩, trivial⟩); (focus rfl))
  | ((with_reducible apply Dg); (focus rfl); (focus rfl); (focus exact B5); (focus exact hT2); (focus exact ⟨Ac (List.mem_cons_of_mem _ List.mem_cons_self) ⟨Ax (List.mem_cons_of_mem _ (List.mem_cons_of_mem _ List.mem_cons_self)) d.len (by omega), trivial⟩, Ac (List.mem_cons_of_mem _ (List.mem_cons_of_mem _ (List.mem_cons_of_mem _ List.mem_cons_self))) ⟨F6 _ _, trivial⟩, Ac List.mem_cons_self ⟨BD rfl, trivial⟩, trivial⟩); (focus rfl))
  | exact True.intro
  | refine stp ?_
  | refine two ?_ ?_
  | (refine imp fun hc => ?_) <;> try exact cx hc
  | refine all fun v_ => ?_)
 rename_i b1 b' b2
 clear hT1 hT2
 have he2 : e2 = 0 := by have := g.ends; rw [hes0] at this; exact this
 subst he2
 obtain ⟨_, _, _, hlen, hes⟩ := Cb hes0
 refine AL (X := Nat × List Bool × Nat) (fun y => [(0, .d (AN l)), (1, .d (Bv x)), (2, .int c), (10, .val (.pointer (some ⟨b1, 0, none⟩))), (12, .val (.pointer (some ⟨b2, 0, none⟩))), (13, .int (Aw l y.1 : Nat)), (14, .val (.pointer (some ⟨y.2.2, 0, none⟩)))])
  (fun y => [.cells y.2.2 3 [.int ((y.1 : Int) - 1)], .cells b2 136 [.val (.slice (some ⟨b', 0, none⟩) l.length l.length)], .cells b' 4 (y.2.1.map AV.bool), .cells b1 43 [.d (AP es)]])
  (fun y => y.1 ≤ l.length ∧ FC l x c y.1 y.2.1) (fun y => y.1) (l.length, List.replicate l.length false, v_) ⟨Nat.le_refl _, FC.start l x c⟩ ?_ ?_
 · refine VS.of_le ?_
   have := Di (l := l)
   rw [← hps] at this
   exact leD
 rintro ⟨i, out, b3⟩ ⟨k1, d⟩
 dsimp only at k1 d ⊢
 have ol := d.len
 cases i with
 | zero =>
   have hT1 := True.intro
   have hT2 := True.intro
   repeat' (first
    | refine ca CK (hA) ?_
    | refine ca An (hE) ?_
    | refine BX ?_
    | ((with_reducible apply Dg); (focus rfl); (focus rfl); (focus exact B8); (focus exact hT1); (focus exact ⟨Ac (List.mem_cons_of_mem _ List.mem_cons_self) ⟨Ax (List.mem_cons_of_mem _ (List.mem_cons_of_mem _ List.mem_cons_self)) d.len (by omega), trivial⟩, Ac List.mem_cons_self ⟨BD rfl, trivial⟩, trivial⟩); (focus rfl))
    | ((with_reducible apply Dg); (focus rfl); (focus rfl); (focus exact B5); (focus exact hT2); (focus exact ⟨Ac (List.mem_cons_of_mem _ List.mem_cons_self) ⟨Ax (List.mem_cons_of_mem _ (List.mem_cons_of_mem _ List.mem_cons_self)) d.len (by omega), trivial⟩, Ac (List.mem_cons_of_mem _ (List.mem_cons_of_mem _ (List.mem_cons_of_mem _ List.mem_cons_self))) ⟨F6 _ _, trivial⟩, Ac List.mem_cons_self ⟨BD rfl, trivial⟩, trivial⟩); (focus rfl))
    | exact True.intro
    | refine stp ?_
    | refine two ?_ ?_
    | (refine imp fun hc => ?_) <;> try exact cx hc
    | refine all fun v_ => ?_)
   refine AO (vfz (t := 6) (f := N8) (h1 := [_, _]) 1 1 rfl rfl rfl (Es out) d.len (fun _ => rfl) (by omega) (by omega)) ?_
   ((with_reducible apply rq2); rfl; rfl; rfl)
   refine AD ?_
   rw [hs, if_neg hcr, d.fin]
 | succ m =>
   have hi : m < l.length := by omega
   have hk := g.kind m hi
   have ht := Td l x c m hi
   unfold Sp.stepT at ht
   rw [BN l m hi, QE l m hi] at ht
   have hm1 : ((m + 1 : Nat) : Int) - 1 = (m : Int) := by omega
   have hrk := FY l m hi
   have hrl := Uf (l := l) (i := m + 1) (by omega)
   have hr6 := g.ah
   rw [hm1]
   by_cases hA : l[m].kind = 13 ∨ l[m].kind = 11 ∨ l[m].kind = 12
   · rw [if_neg (show ¬ AU l[m].kind by unfold AU; omega), Nat.add_zero] at hrk
     have hT1 := True.intro
     have hT2 := True.intro
     have hv := g.prop m hi
     by_cases hk13 : l[m].kind = 13
     · obtain ⟨v0, v1⟩ := hv hk13
       repeat' (first
        | refine ca CK (hA) ?_
        | refine ca An (hE) ?_
        | refine BX ?_
        | ((with_reducible apply Dg); (focus rfl); (focus rfl); (focus exact B8); (focus exact hT1); (focus exact ⟨Ac (List.mem_cons_of_mem _ List.mem_cons_self) ⟨Ax (List.mem_cons_of_mem _ (List.mem_cons_of_mem _ List.mem_cons_self)) d.len (by omega), trivial⟩, Ac List.mem_cons_self ⟨BD rfl, trivial⟩, trivial⟩); (focus rfl))
        | ((with_reducible apply Dg); (focus rfl); (focus rfl); (focus exact B5); (focus exact hT2); (focus exact ⟨Ac (List.mem_cons_of_mem _ List.mem_cons_self) ⟨Ax (List.mem_cons_of_mem _ (List.mem_cons_of_mem _ List.mem_cons_self)) d.len (by omega), trivial⟩, Ac (List.mem_cons_of_mem _ (List.mem_cons_of_mem _ (List.mem_cons_of_mem _ List.mem_cons_self))) ⟨F6 _ _, trivial⟩, Ac List.mem_cons_self ⟨BD rfl, trivial⟩, trivial⟩); (focus rfl))
        | exact True.intro
        | refine stp ?_
        | refine two ?_ ?_
        | (refine imp fun hc => ?_) <;> try exact cx hc
        | refine all fun v_ => ?_)
       try simp only [Int.toNat_natCast, Nat.mul_one]
       refine ⟨(m, out.set m (x[l[m].val.toNat]'(by omega)), v_), ⟨by dsimp only; omega, ?_⟩, by dsimp only; omega, vle (.cons_cons _ (.cons _ (List.Sublist.refl _))) ?_⟩
       rotate_left
       · exact leD
       refine d.next hi ?_
       rw [ht, if_pos hk13, List.getElem?_eq_getElem (by omega)]; rfl
     repeat' (first
      | refine ca CK (hA) ?_
      | refine ca An (hE) ?_
      | refine BX ?_
      | ((with_reducible apply Dg); (focus rfl); (focus rfl); (focus exact B8); (focus exact hT1); (focus exact ⟨Ac (List.mem_cons_of_mem _ List.mem_cons_self) ⟨Ax (List.mem_cons_of_mem _ (List.mem_cons_of_mem _ List.mem_cons_self)) d.len (by omega), trivial⟩, Ac List.mem_cons_self ⟨BD rfl, trivial⟩, trivial⟩); (focus rfl))
      | ((with_reducible apply Dg); (focus rfl); (focus rfl); (focus exact B5); (focus exact hT2); (focus exact ⟨Ac (List.mem_cons_of_mem _ List.mem_cons_self) ⟨Ax (List.mem_cons_of_mem _ (List.mem_cons_of_mem _ List.mem_cons_self)) d.len (by omega), trivial⟩, Ac (List.mem_cons_of_mem _ (List.mem_cons_of_mem _ (List.mem_cons_of_mem _ List.mem_cons_self))) ⟨F6 _ _, trivial⟩, Ac List.mem_cons_self ⟨BD rfl, trivial⟩, trivial⟩); (focus rfl))
      | exact True.intro
      | refine stp ?_
      | refine two ?_ ?_
      | (refine imp fun hc => ?_) <;> try exact cx hc
      | refine all fun v_ => ?_)
     · try simp only [Int.toNat_natCast, Nat.mul_one]
       refine ⟨(m, out.set m true, v_), ⟨by dsimp only; omega, ?_⟩, by dsimp only; omega, vle (.cons_cons _ (.cons _ (List.Sublist.refl _))) ?_⟩
       rotate_left
       · exact leD
       refine d.next hi ?_
       rw [ht, if_neg hk13, if_pos (by omega)]
     · try simp only [Int.toNat_natCast, Nat.mul_one]
       refine ⟨(m, out, v_), ⟨by dsimp only; omega, ?_⟩, by dsimp only; omega, vle (.cons_cons _ (.cons _ (List.Sublist.refl _))) ?_⟩
       rotate_left
       · exact leD
       refine d.no hi ?_
       rw [ht, if_neg hk13, if_neg (by omega), if_pos (by omega)]
   by_cases hB : l[m].kind = 10
   · rw [if_neg (show ¬ AU l[m].kind by unfold AU; omega), Nat.add_zero] at hrk
     obtain ⟨q1, q2, q3, q4, q5⟩ := E0 hi (g.well m hi) (by rw [hB]; decide)
     have hT1 := VC GP out m (by omega) (by omega)
     rw [d.get (Nat.le_refl _) q1] at hT1
     have hT2 := True.intro
     repeat' (first
      | refine ca CK (hA) ?_
      | refine ca An (hE) ?_
      | refine BX ?_
      | ((with_reducible apply Dg); (focus rfl); (focus rfl); (focus exact B8); (focus exact hT1); (focus exact ⟨Ac (List.mem_cons_of_mem _ List.mem_cons_self) ⟨Ax (List.mem_cons_of_mem _ (List.mem_cons_of_mem _ List.mem_cons_self)) d.len (by omega), trivial⟩, Ac List.mem_cons_self ⟨BD rfl, trivial⟩, trivial⟩); (focus rfl))
      | ((with_reducible apply Dg); (focus rfl); (focus rfl); (focus exact B5); (focus exact hT2); (focus exact ⟨Ac (List.mem_cons_of_mem _ List.mem_cons_self) ⟨Ax (List.mem_cons_of_mem _ (List.mem_cons_of_mem _ List.mem_cons_self)) d.len (by omega), trivial⟩, Ac (List.mem_cons_of_mem _ (List.mem_cons_of_mem _ (List.mem_cons_of_mem _ List.mem_cons_self))) ⟨F6 _ _, trivial⟩, Ac List.mem_cons_self ⟨BD rfl, trivial⟩, trivial⟩); (focus rfl))
      | exact True.intro
      | refine stp ?_
      | refine two ?_ ?_
      | (refine imp fun hc => ?_) <;> try exact cx hc
      | refine all fun v_ => ?_)
     try simp only [Int.toNat_natCast, Nat.mul_one]
     refine ⟨(m, out.set m (!tAt l x c (m + 1)), v_), ⟨by dsimp only; omega, ?_⟩, by dsimp only; omega, vle (.cons_cons _ (.cons _ (List.Sublist.refl _))) ?_⟩
     rotate_left
     · exact leD
     refine d.next hi ?_
     rw [ht, if_neg (by omega), if_neg (by omega), if_neg (by omega), if_pos hB]
   by_cases hC : l[m].kind = 8 ∨ l[m].kind = 9
   · rw [if_neg (show ¬ AU l[m].kind by unfold AU; omega), Nat.add_zero] at hrk
     obtain ⟨q1, q2, q3, q4, q5⟩ := E0 hi (g.well m hi) (by rcases hC with h | h <;> rw [h] <;> decide)
     obtain ⟨r1, r2⟩ := Fx hi (g.well m hi) (by rcases hC with h | h <;> rw [h] <;> decide)
     have hT1 := VC GP out m (by omega) (by omega)
     rw [d.get (Nat.le_refl _) q1] at hT1
     have he1 : es[m + 1] = (second l m : Int) := by rw [hes (m + 1) (by omega), ← q4]
     have hT2 := a8 GP out es m (by omega) (by omega) (by omega) (by omega)
     simp only [he1, Int.toNat_natCast] at hT2
     rw [d.get (by omega) r1] at hT2
     rw [if_pos (show m < second l m by omega), if_neg (by omega), if_neg (by omega), if_neg (by omega), if_neg (by omega)] at ht
     cases hgA : tAt l x c (m + 1) <;> cases hgB : tAt l x c (second l m) <;> rw [hgA] at hT1 ht <;> rw [hgB] at hT2 ht
     all_goals
      repeat' (first
       | refine ca CK (hA) ?_
       | refine ca An (hE) ?_
       | refine BX ?_
       | ((with_reducible apply Dg); (focus rfl); (focus rfl); (focus exact B8); (focus exact hT1); (focus exact ⟨Ac (List.mem_cons_of_mem _ List.mem_cons_self) ⟨Ax (List.mem_cons_of_mem _ (List.mem_cons_of_mem _ List.mem_cons_self)) d.len (by omega), trivial⟩, Ac List.mem_cons_self ⟨BD rfl, trivial⟩, trivial⟩); (focus rfl))
       | ((with_reducible apply Dg); (focus rfl); (focus rfl); (focus exact B5); (focus exact hT2); (focus exact ⟨Ac (List.mem_cons_of_mem _ List.mem_cons_self) ⟨Ax (List.mem_cons_of_mem _ (List.mem_cons_of_mem _ List.mem_cons_self)) d.len (by omega), trivial⟩, Ac (List.mem_cons_of_mem _ (List.mem_cons_of_mem _ (List.mem_cons_of_mem _ List.mem_cons_self))) ⟨F6 _ _, trivial⟩, Ac List.mem_cons_self ⟨BD rfl, trivial⟩, trivial⟩); (focus rfl))
       | exact True.intro
       | refine stp ?_
       | refine two ?_ ?_
       | (refine imp fun hc => ?_) <;> try exact cx hc
       | refine all fun v_ => ?_)
     all_goals first
      | (try simp only [Int.toNat_natCast, Nat.mul_one]
         refine ⟨(m, out.set m true, v_), ⟨by dsimp only; omega, ?_⟩, by dsimp only; omega, vle (.cons_cons _ (.cons _ (List.Sublist.refl _))) ?_⟩
         rotate_left
         · exact leD
         refine d.next hi ?_
         rw [ht]
         first
          | (rw [if_pos (by omega)]; rfl)
          | (rw [if_neg (by omega), if_pos (by omega)]; rfl))
      | (try simp only [Int.toNat_natCast, Nat.mul_one]
         refine ⟨(m, out.set m false, v_), ⟨by dsimp only; omega, ?_⟩, by dsimp only; omega, vle (.cons_cons _ (.cons _ (List.Sublist.refl _))) ?_⟩
         rotate_left
         · exact leD
         refine d.next hi ?_
         rw [ht]
         first
          | (rw [if_pos (by omega)]; rfl)
          | (rw [if_neg (by omega), if_pos (by omega)]; rfl))
   have hah : AU l[m].kind := by unfold AU; omega
   rw [if_pos hah] at hrk
   have hT1 := True.intro
   have hT2 := True.intro
   have hcd : 0 ≤ c / 2 ^ (Aw l m) := Int.ediv_nonneg hc0 (by exact_mod_cast Nat.zero_le _)
   have hcd2 : c / 2 ^ (Aw l m) ≤ c := Int.ediv_le_self _ hc0
   have hrm : ((Aw l m : Nat) : Int).toNat = Aw l m := Int.toNat_natCast _
   rw [show ((Aw l (m + 1) : Nat) : Int) = (Aw l m : Nat) + 1 by omega]
   repeat' (first
    | refine ca CK (hA) ?_
    | refine ca An (hE) ?_
    | refine BX ?_
    | ((with_reducible apply Dg); (focus rfl); (focus rfl); (focus exact B8); (focus exact hT1); (focus exact ⟨Ac (List.mem_cons_of_mem _ List.mem_cons_self) ⟨Ax (List.mem_cons_of_mem _ (List.mem_cons_of_mem _ List.mem_cons_self)) d.len (by omega), trivial⟩, Ac List.mem_cons_self ⟨BD rfl, trivial⟩, trivial⟩); (focus rfl))
    | ((with_reducible apply Dg); (focus rfl); (focus rfl); (focus exact B5); (focus exact hT2); (focus exact ⟨Ac (List.mem_cons_of_mem _ List.mem_cons_self) ⟨Ax (List.mem_cons_of_mem _ (List.mem_cons_of_mem _ List.mem_cons_self)) d.len (by omega), trivial⟩, Ac (List.mem_cons_of_mem _ (List.mem_cons_of_mem _ (List.mem_cons_of_mem _ List.mem_cons_self))) ⟨F6 _ _, trivial⟩, Ac List.mem_cons_self ⟨BD rfl, trivial⟩, trivial⟩); (focus rfl))
    | exact True.intro
    | refine stp ?_
    | refine two ?_ ?_
    | (refine imp fun hc => ?_) <;> try exact cx hc
    | refine all fun v_ => ?_)
   simp only [Int.add_sub_cancel, Int.toNat_natCast, Nat.mul_one, eD hcd (show c / 2 ^ Aw l m ≤ 9223372036854775807 by omega)]
   try simp only [Int.toNat_natCast, Nat.mul_one]
   refine ⟨(m, out.set m (decide (c / 2 ^ Aw l m % 2 = 1)), v_), ⟨by dsimp only; omega, ?_⟩, by dsimp only; omega, vle (.cons_cons _ (.cons _ (List.Sublist.refl _))) ?_⟩
   rotate_left
   · exact leD
   refine d.next hi ?_
   rw [ht, if_neg (by omega), if_neg (by omega), if_neg (by omega), if_neg (by omega), if_neg (by omega), if_neg (by omega)]; rfl
end Go.Proofs.YtajnpfgelpkijaaGreatDoor
