/- A bundle of this claim's own texts: W1. -/
import Derived.Test.YtajnpfgelpkijaaGreatDoorA4
import Derived.Test.YtajnpfgelpkijaaGreatDoorA36
set_option linter.unusedVariables false
set_option linter.unusedSimpArgs false
set_option maxRecDepth 100000
set_option maxHeartbeats 4000000
namespace Go.Proofs.YtajnpfgelpkijaaGreatDoor
open Go Go.Av Go.Sp

theorem VV : Cal Tryz.prog 105 := Cal.of Tryz.func105 (by kernel_rfl) (by kernel_rfl)
theorem Ns : Cal Tryz.prog 62 := Cal.of Tryz.func62 (by kernel_rfl) (by kernel_rfl)
theorem gz (G : List (Nat × List D)) (g : Gn) (hok : g.ok) (pn : List Nat) (hpn : pn.length = g.spots.length) (hpl : ∀ (i : Nat) (h : i < pn.length), pn[i] < g.spots.length) : ACr Tryz.prog G 105 [gnA g, .d (Af pn)] (.d (Bv (HK g pn))) := by
 refine AC.factN (g := Xi) (f := Po) (xss := g.next) 1 8 (fun _ => rfl) (.agg (.there (.there .here))) fun hN => ?_
 refine AK (ts := [4]) Tryz.f105.ntmps Tryz.func105 rfl rfl rfl (by simp [Tryz.ntmps105]) fun W I => ?_
 have hs := hok.size
 have hnl := hok.next
 have hsl := hok.sets
 have h64 := S5 hok
 have hm6 := hok.many
 have hgs : ∀ (i : Nat) (h : i < g.sets.length), g.sets[i] < 64 := fun i h => by have := hok.bits i h; omega
 repeat' (first
  | exact True.intro | refine Gi ?_ | refine two ?_ ?_ | refine AG fun c_ => ?_
  | (refine imp fun hc => ?_) <;> try exact cx hc
  | refine all fun v_ => ?_)
 refine ⟨?_⟩
 rename Nat => bg
 refine IN (X := Nat × Nat) (fun y => [(1, .d (Af pn)), (2, .val (.pointer (some ⟨bg, 0, none⟩))), (5, .int g.spots.length), (6, .val (.slice (some ⟨y.1, 0, none⟩) g.spots.length g.spots.length)), (7, .val (.slice (some ⟨y.2, 0, none⟩) g.spots.length g.spots.length))]) (fun y => [.cells y.1 4 ((List.replicate g.spots.length false).map AV.bool), .cells y.2 3 ((List.replicate g.spots.length 0).map AV.int), .cells bg 99 [.d (AN g.spots), .int g.init, .d (BJ g.next), .d (Af g.sets), .int g.many]]) ?_ ?_
 · repeat' (first
    | exact True.intro | refine AJ ?_ | refine two ?_ ?_ | refine AG fun c_ => ?_
    | (refine imp fun hc => ?_) <;> try exact cx1 hc
    | refine all fun v_ => ?_)
   all_goals
    refine ⟨(_, _), VS.take (by exact AB) ?_⟩
    exact leD
 rintro ⟨bl, bs⟩
 dsimp only
 repeat' (first
  | exact True.intro | refine Gi ?_ | refine two ?_ ?_ | refine AG fun c_ => ?_
  | (refine imp fun hc => ?_) <;> try exact cx hc
  | refine all fun v_ => ?_)
 refine AL (X := List Bool × List Int × Nat) (fun y => [(1, .d (Af pn)), (2, .val (.pointer (some ⟨bg, 0, none⟩))), (5, .int g.spots.length), (6, .val (.slice (some ⟨bl, 0, none⟩) g.spots.length g.spots.length)), (7, .val (.slice (some ⟨bs, 0, none⟩) g.spots.length g.spots.length)), (22, .d (BJ g.next)), (23, .int g.next.length), (24, .int y.2.2)]) (fun y => [.cells bl 4 (y.1.map AV.bool), .cells bs 3 (y.2.1.map AV.int), .cells bg 99 [.d (AN g.spots), .int g.init, .d (BJ g.next), .d (Af g.sets), .int g.many]]) (fun y => y.2.2 ≤ g.spots.length ∧ LoI g pn y.2.2 0 y.1 ∧ SeI g pn y.2.2 y.2.1) (fun y => g.spots.length - y.2.2) (List.replicate g.spots.length false, List.replicate g.spots.length 0, 0) ⟨Nat.zero_le _, LoI.start g pn, SeI.start g pn⟩ (VS.of_le ?_) ?_
 · exact leD
 rintro ⟨lo, st, i⟩ ⟨h1, t, q⟩
 dsimp only at h1 t q ⊢
 have hll := t.len
 have hsl2 := q.1
 by_cases hi : i < g.spots.length
 · have hpi := hpl i (by omega)
   have hni := Ce pn i (by omega)
   have hsi := Ce g.sets i (by omega)
   have q2 := q.step hok (by rw [hni]; exact hpi)
   have hnx := g.nx_get i (by omega)
   have hlj := hN (g.next[i]'(by omega)) (List.getElem_mem _)
   rw [hni, hsi, CM _ _ (by omega)] at q2
   repeat' (first
    | exact True.intro | refine Gi ?_ | refine two ?_ ?_ | refine AG fun c_ => ?_
    | (refine imp fun hc => ?_) <;> try exact cx hc
    | refine all fun v_ => ?_)
   refine AL (X := List Bool × Nat) (fun y => [(1, .d (Af pn)), (2, .val (.pointer (some ⟨bg, 0, none⟩))), (5, .int g.spots.length), (6, .val (.slice (some ⟨bl, 0, none⟩) g.spots.length g.spots.length)), (7, .val (.slice (some ⟨bs, 0, none⟩) g.spots.length g.spots.length)), (8, .int i), (22, .d (BJ g.next)), (23, .int g.next.length), (24, .int i), (43, .d (Af (g.next[i]'(by omega)))), (44, .int (g.next[i]'(by omega)).length), (45, .int y.2)]) (fun y => [.cells bl 4 (y.1.map AV.bool), .cells bs 3 ((st.set (pn[i]'(by omega)) (bits .or .i64 (st[pn[i]'(by omega)]'(by omega)) (g.sets[i]'(by omega) : Nat))).map AV.int), .cells bg 99 [.d (AN g.spots), .int g.init, .d (BJ g.next), .d (Af g.sets), .int g.many]]) (fun y => y.2 ≤ (g.next[i]'(by omega)).length ∧ LoI g pn i y.2 y.1) (fun y => (g.next[i]'(by omega)).length - y.2) (lo, 0) ⟨Nat.zero_le _, t⟩ (VS.of_le ?_) ?_
   · exact leD
   clear t
   rintro ⟨lo2, k⟩ ⟨k1, t⟩
   dsimp only at k1 t ⊢
   have hll2 := t.len
   by_cases hk : k < (g.next[i]'(by omega)).length
   · have hk' : k < (g.nx i).length := by rw [hnx]; exact hk
     have hke : (g.nx i)[k] = (g.next[i]'(by omega))[k] := by simp only [hnx]
     have hto := g.nx_lt hok i _ (List.getElem_mem hk')
     rw [hke] at hto
     have hpk := hpl ((g.next[i]'(by omega))[k]) (by omega)
     have hnk := Ce pn ((g.next[i]'(by omega))[k]) (by omega)
     by_cases he : pn[(g.next[i]'(by omega))[k]]'(by omega) = pn[i]'(by omega)
     · have t2 := t.yes hk' (by rw [hke, hnk, hni]; exact he) (by rw [hni]; exact hpi)
       rw [hni] at t2
       repeat' (first
        | exact True.intro | refine Gi ?_ | refine two ?_ ?_ | refine AG fun c_ => ?_
        | (refine imp fun hc => ?_) <;> try exact cx hc
        | refine all fun v_ => ?_)
       refine ⟨(lo2.set (pn[i]'(by omega)) true, k + 1), ⟨by dsimp only; omega, t2⟩, by dsimp only; omega, VS.of_le ?_⟩
       exact leD
     · have t2 := t.no hk' (by rw [hke, hnk, hni]; exact he)
       repeat' (first
        | exact True.intro | refine Gi ?_ | refine two ?_ ?_ | refine AG fun c_ => ?_
        | (refine imp fun hc => ?_) <;> try exact cx hc
        | refine all fun v_ => ?_)
       refine ⟨(lo2, k + 1), ⟨by dsimp only; omega, t2⟩, by dsimp only; omega, VS.of_le ?_⟩
       exact leD
   have ek : k = (g.nx i).length := by rw [hnx]; omega
   rw [ek] at t
   repeat' (first
    | exact True.intro | refine Gi ?_ | refine two ?_ ?_ | refine AG fun c_ => ?_
    | (refine imp fun hc => ?_) <;> try exact cx hc
    | refine all fun v_ => ?_)
   refine ⟨(lo2, _, i + 1), ⟨by dsimp only; omega, t.done, q2⟩, by dsimp only; omega, VS.of_le ?_⟩
   exact leD
 obtain rfl : i = g.spots.length := by omega
 have hp := dF g.many hm6
 have hp1 : (2 : Int) ^ (((g.many : Nat) : Int)).toNat = 2 ^ g.many := by rw [Int.toNat_natCast]
 have hp2 : Aj (1 * 2 ^ (((g.many : Nat) : Int)).toNat) := by rw [hp1]; unfold Aj; omega
 have hp3 : Aj (1 * 2 ^ (((g.many : Nat) : Int)).toNat - 1) := by rw [hp1]; unfold Aj; omega
 repeat' (first
  | exact True.intro | refine Gi ?_ | refine two ?_ ?_ | refine AG fun c_ => ?_
  | (refine imp fun hc => ?_) <;> try exact cx hc
  | refine all fun v_ => ?_)
 refine AL (X := List Bool × Nat) (fun y => [(1, .d (Af pn)), (2, .val (.pointer (some ⟨bg, 0, none⟩))), (6, .val (.slice (some ⟨bl, 0, none⟩) g.spots.length g.spots.length)), (7, .val (.slice (some ⟨bs, 0, none⟩) g.spots.length g.spots.length)), (12, .val (.slice (some ⟨v_, 0, none⟩) g.spots.length g.spots.length)), (69, .int g.spots.length), (70, .int y.2)]) (fun y => [.cells v_ 4 (y.1.map AV.bool), .cells bl 4 (lo.map AV.bool), .cells bs 3 (st.map AV.int), .cells bg 99 [.d (AN g.spots), .int g.init, .d (BJ g.next), .d (Af g.sets), .int g.many]]) (fun y => y.2 ≤ g.spots.length ∧ y.1.length = g.spots.length ∧ ∀ v, v < y.2 → bi y.1 v = decide (Fk g pn v)) (fun y => g.spots.length - y.2) (List.replicate g.spots.length false, 0) ⟨Nat.zero_le _, by simp, fun v h => absurd h (Nat.not_lt_zero v)⟩ (VS.of_le ?_) ?_
 · exact leD
 rintro ⟨out, i⟩ ⟨k1, k2, k3⟩
 dsimp only at k1 k2 k3 ⊢
 by_cases hi : ¬ i < g.spots.length
 · obtain rfl : i = g.spots.length := by omega
   have e : out = HK g pn := by
    apply List.ext_getElem
    · simp [HK, k2]
    · intro j a b
      have := k3 j (by omega)
      rw [L6 _ _ a] at this
      simp [HK, this]
   subst e
   repeat' (first
    | exact True.intro | refine Gi ?_ | refine two ?_ ?_ | refine AG fun c_ => ?_
    | (refine imp fun hc => ?_) <;> try exact cx hc
    | refine all fun v_ => ?_)
   refine AO (VS.trans (VS.drop (h' := [.cells v_ 4 ((HK g pn).map AV.bool)]) (by exact H6)) (vfz (t := 4) (f := N8) (h1 := []) 1 1 rfl rfl rfl (Es _) k2 (fun _ => rfl) (by omega) (by omega))) ?_
   ((with_reducible apply rq1); rfl; rfl)
   exact AD rfl
 replace hi := Decidable.not_not.1 hi
 have hni := Ce pn i (by omega)
 have hbi := L6 lo i (by omega)
 have hgi := CM st i (by omega)
 have hfi := Yf t q hi
 have hset : ∀ b, b = decide (Fk g pn i) → ∀ v, v < i + 1 → bi (out.set i b) v = decide (Fk g pn v) := fun b hb v hv => by
  rw [Jq _ _ _ _ (by omega)]
  split
  · rename_i e; subst e; exact hb
  · exact k3 v (by omega)
 repeat' (first
  | exact True.intro | refine Gi ?_ | refine two ?_ ?_ | refine AG fun c_ => ?_
  | (refine imp fun hc => ?_) <;> try exact cx hc
  | refine all fun v_ => ?_)
 all_goals
  refine ⟨(out.set i _, i + 1), ⟨by dsimp only; omega, by simp [k2], hset _ ?_⟩, by dsimp only; omega, VS.of_le ?_⟩
  rotate_left
  · exact leD
  · first
     | (refine (decide_eq_false ?_).symm; rw [hfi, hni, hbi]; rintro ⟨a1, a2, a3⟩; first | omega | (simp_all; done))
     | (refine decide_eq_decide.2 ?_; rw [hfi, hni, hbi, hgi, Int.one_mul, hp1]; exact ⟨fun h => ⟨by omega, by assumption, h⟩, fun h => h.2.2⟩)
end Go.Proofs.YtajnpfgelpkijaaGreatDoor
