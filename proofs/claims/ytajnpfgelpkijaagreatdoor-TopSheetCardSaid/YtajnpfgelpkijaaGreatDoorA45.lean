/- A bundle of this claim's own texts: N3. -/
import Derived.Test.YtajnpfgelpkijaaGreatDoorA4
import Derived.Test.YtajnpfgelpkijaaGreatDoorA5
import Derived.Test.YtajnpfgelpkijaaGreatDoorA8
import Derived.Test.YtajnpfgelpkijaaGreatDoorA10
import Derived.Test.YtajnpfgelpkijaaGreatDoorA16
import Derived.Test.YtajnpfgelpkijaaGreatDoorA18
import Derived.Test.YtajnpfgelpkijaaGreatDoorA40
import Derived.Test.YtajnpfgelpkijaaGreatDoorA41
set_option linter.unusedVariables false
set_option linter.unusedSimpArgs false
set_option maxRecDepth 100000
set_option maxHeartbeats 4000000
namespace Go.Proofs.YtajnpfgelpkijaaGreatDoor
open Go Go.Av Go.Sp
theorem UF : Cal Tryz.prog 184 := Cal.of Tryz.func184 (by kernel_rfl) (by kernel_rfl)
theorem OF : Cal Tryz.prog 173 := Cal.of Tryz.func173 (by kernel_rfl) (by kernel_rfl)
theorem dc (G : List (Nat × List D)) (xs : List Int) : AC Tryz.prog G 184 [.d (AP xs)] [] fun r h => ∃ q : Sl, r = .ret (.val q.v) ∧ h = [AF q.v 3 1 Ag xs] := by
 refine AK (ts := [2]) Tryz.f184.ntmps Tryz.func184 rfl rfl rfl (by simp [Tryz.ntmps184]) fun W I => ?_
 refine EC (t := 0) rfl fun hl => ?_
 repeat' (first
  | ((with_reducible apply cR); (focus rfl); (focus rfl); (focus rfl); (focus rfl))
  | ((with_reducible apply (Z0 Ag)); (focus rfl); (focus (with_reducible exact ElC.h)); (focus rfl))
  | exact True.intro | refine AM ?_ | refine two ?_ ?_
  | (refine imp fun hc => ?_) <;> try exact cx hc
  | refine all fun v_ => ?_)
 · subst hc
   refine AO (VS.nilrow 3 1) ?_
   ((with_reducible apply rq1); rfl; rfl)
   exact ⟨Sl.nil, rfl, rfl⟩
 · refine CY ?_
   ((with_reducible apply rq1); rfl; rfl)
   exact ⟨v_, rfl, rfl⟩
theorem after (m : Md) (hm : Ah m = 0) (r : Ru) (hr : r ∈ m.rules) (vs : List Int) (g : InV m vs) : ACr Tryz.prog GP 173 [mdA m, ruA r, .d (AP vs)] (.tup [.d (AP ((Co m r vs).getD [])), .bool (Co m r vs).isSome]) := by
 have gr := gE hm hr
 have hl6 := Hp (BP hm)
 have hln := g.len
 have hfew := gr.few
 have hG := Eval r.guard vs
 refine AK (ts := [6, 7]) Tryz.f173.ntmps Tryz.func173 rfl rfl rfl (by simp [Tryz.ntmps173]) fun W I => ?_
 have hb := XC (l := r.guard) (vs := vs) (by rw [hln]; exact gr.guard) (g.lim hm)
 by_cases h0 : CL r.guard vs ≠ (1, 0)
 · rw [P2 h0]
   rcases hb with hb | hb | hb
   · rw [hb] at hG
     dsimp only at hG
     repeat' (first
      | refine ca D6 (hG) ?_
      | exact True.intro | refine AJ ?_ | refine two ?_ ?_ | refine AG fun c_ => ?_
      | (refine imp fun hc => ?_) <;> try exact cx1 hc
      | refine all fun v_ => ?_)
     refine AO (VS.trans (VS.drop (List.nil_sublist _)) (Ft (t := 6) 1 8 rfl)) ?_
     ((with_reducible apply rq2); rfl; rfl; rfl)
     exact AD rfl
   · rw [hb] at hG
     dsimp only at hG
     repeat' (first
      | refine ca D6 (hG) ?_
      | exact True.intro | refine AJ ?_ | refine two ?_ ?_ | refine AG fun c_ => ?_
      | (refine imp fun hc => ?_) <;> try exact cx1 hc
      | refine all fun v_ => ?_)
     refine AO (VS.trans (VS.drop (List.nil_sublist _)) (Ft (t := 6) 1 8 rfl)) ?_
     ((with_reducible apply rq2); rfl; rfl; rfl)
     exact AD rfl
   · exact absurd hb h0
 replace h0 := Decidable.not_not.1 h0
 rw [h0] at hG
 dsimp only at hG
 repeat' (first
  | refine ca D6 (hG) ?_
  | refine cae UF (dc _ _) ?_
  | exact True.intro | refine AJ ?_ | refine two ?_ ?_ | refine AG fun c_ => ?_
  | (refine imp fun hc => ?_) <;> try exact cx1 hc
  | refine all fun v_ => ?_)
 rename_i bm br _
 refine AL (X := Nat) (fun i => [(2, .d (AP vs)), (3, .val (.pointer (some ⟨bm, 0, none⟩))), (10, .val v_.v), (32, .d (Kc r.sets)), (33, .int r.sets.length), (34, .int i)]) (fun i => [AF v_.v 3 1 Ag (Cc vs (r.sets.take i) vs), .cells bm 25 [.d (Ba m.vars), .d (BH m.rules)]]) (fun i => i ≤ r.sets.length ∧ ∀ s ∈ r.sets.take i, H9 m vs s) (fun i => r.sets.length - i) 0 ⟨Nat.zero_le _, fun s hs => (by cases hs)⟩ (VS.take (by exact AB) ?_) ?_
 · exact leD
 rintro i ⟨hi, hok⟩
 have hsl := Dv vs (r.sets.take i) vs
 by_cases hil : i < r.sets.length
 · have hs := List.getElem_mem hil
   obtain ⟨a1, a2, a3⟩ := gr.sets _ hs
   have a4 : r.sets[i].var.toNat < m.vars.length := by omega
   have hE := Eval r.sets[i].val vs
   have hx := fun n e (he : CL r.sets[i].val vs = (n, e)) => VQ (m := m) (vs := vs) (s := r.sets[i]) (n := n) (e := e) he (by omega)
   have hn := Ro vs r.sets i hil
   generalize CL r.sets[i].val vs = p at hE hx hn
   obtain ⟨n, e⟩ := p
   have hx := hx n e rfl
   dsimp only at hE hn
   by_cases hgood : H9 m vs r.sets[i]
   · have hx := hx.1 hgood
     obtain ⟨rfl, x1, x2⟩ := hx
     repeat' (first
      | refine ca D6 (hE) ?_
      | exact True.intro | refine AJ ?_ | refine two ?_ ?_ | refine AG fun c_ => ?_
      | (refine imp fun hc => ?_) <;> try exact cx1 hc
      | refine all fun v_ => ?_)
     refine ⟨i + 1, ⟨by omega, fun s h => ?_⟩, by omega, ?_⟩
     · rw [List.take_succ_eq_append_getElem hil] at h
       rcases List.mem_append.1 h with h | h
       · exact hok s h
       · rw [List.mem_singleton.1 h]; exact hgood
     · rw [hn]
       refine VS.take (by exact AB) ?_
       exact leD
   · rw [Te hs hgood]
     by_cases x0 : e ≠ 0
     · repeat' (first
        | refine ca D6 (hE) ?_
        | exact True.intro | refine AJ ?_ | refine two ?_ ?_ | refine AG fun c_ => ?_
        | (refine imp fun hc => ?_) <;> try exact cx1 hc
        | refine all fun v_ => ?_)
       refine AO (VS.trans (VS.drop (List.nil_sublist _)) (Ft (t := 6) 1 8 rfl)) ?_
       ((with_reducible apply rq2); rfl; rfl; rfl)
       exact AD rfl
     replace x0 := Decidable.not_not.1 x0
     subst x0
     by_cases x1 : n < m.vars[r.sets[i].var.toNat].low
     · repeat' (first
        | refine ca D6 (hE) ?_
        | exact True.intro | refine AJ ?_ | refine two ?_ ?_ | refine AG fun c_ => ?_
        | (refine imp fun hc => ?_) <;> try exact cx1 hc
        | refine all fun v_ => ?_)
       refine AO (VS.trans (VS.drop (List.nil_sublist _)) (Ft (t := 6) 1 8 rfl)) ?_
       ((with_reducible apply rq2); rfl; rfl; rfl)
       exact AD rfl
     by_cases x2 : m.vars[r.sets[i].var.toNat].high < n
     · repeat' (first
        | refine ca D6 (hE) ?_
        | exact True.intro | refine AJ ?_ | refine two ?_ ?_ | refine AG fun c_ => ?_
        | (refine imp fun hc => ?_) <;> try exact cx1 hc
        | refine all fun v_ => ?_)
       refine AO (VS.trans (VS.drop (List.nil_sublist _)) (Ft (t := 6) 1 8 rfl)) ?_
       ((with_reducible apply rq2); rfl; rfl; rfl)
       exact AD rfl
     exact absurd (hx.2 ⟨rfl, by omega, by omega⟩) hgood
 obtain rfl : i = r.sets.length := by omega
 rw [List.take_length] at hok hsl ⊢
 rw [QQ h0 hok]
 repeat' (first
  | exact True.intro | refine AJ ?_ | refine two ?_ ?_ | refine AG fun c_ => ?_
  | (refine imp fun hc => ?_) <;> try exact cx1 hc
  | refine all fun v_ => ?_)
 refine AO (VS.trans (Ci (t := 6) (eb := 8) rfl rfl (fun x => rfl) (by omega)) (VS.drop (List.nil_sublist _))) ?_
 ((with_reducible apply rq2); rfl; rfl; rfl)
 exact AD rfl
end Go.Proofs.YtajnpfgelpkijaaGreatDoor
