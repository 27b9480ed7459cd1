/- A bundle of this claim's own texts: H4 K7 Ck P9. -/
import Derived.Test.YtnlfhnbcdfdhgaaGreatDoorF38
set_option linter.unusedVariables false
set_option linter.unusedSimpArgs false
set_option maxRecDepth 100000
set_option maxHeartbeats 4000000
namespace Go.Sp
open Go Go.Av

theorem FoG.of (raw : List Fo) {t : Nat} (h : t ≤ 6) : FoG (Bi raw t) := by
 have := RF raw t
 exact ⟨this.1, by omega, by omega⟩
end Go.Sp
namespace Go.Proofs.YtnlfhnbcdfdhgaaGreatDoor
open Go Go.Av Go.Sp
theorem Hv : Cal Tryz.prog 19 := Cal.of Tryz.func19 (by kernel_rfl) (by kernel_rfl)
theorem Td (G : List (Nat × List D)) (d : De) (hd : TY d) (raw : List Fo) (hr : BH raw) (t : Nat) (ht : t ≤ 100) : ACr Tryz.prog G 19 [deA d, .d (AO raw), .int t] (tkA (DP d (Bi raw t))) := by
 have hM := de G d hd
 have hP := cg G
 have hF := Yw G raw hr t ht
 refine Bm (rs := [.cell 6 29]) Tryz.f19.ntmps Tryz.func19 rfl rfl rfl (by simp [Tryz.ntmps19]) fun W I => ?_
 repeat' (first
  | refine ca S6 (hM) ?_
  | refine ca SA (hP) ?_
  | refine ca Oh (hF) ?_
  | exact True.intro | refine AG ?_ | refine two ?_ ?_ | refine AF fun c_ => ?_
  | (refine imp fun hc => ?_) <;> try exact cx1 hc
  | refine all fun v_ => ?_)
 refine NO (xs := [tkA (DP d (Bi raw t))]) ⟨Ax rfl (by (with_reducible exact ElC.h)) rfl (by exact Ab) rfl, trivial⟩ rfl (h' := []) (List.nil_sublist _) (AB rfl)
theorem YT {g : Nat} {xs : List D} (h : Bf Tryz.prog (g + 2) 183 xs) : ∃ o : {o : Fo // AX o.kind ∧ AX o.val}, xs = o.1.cells := by
 obtain ⟨p0, p1, rfl, h0, h1⟩ := Gi Tryz.underlying183 h
 obtain ⟨a, rfl, ha⟩ := C7 h0
 obtain ⟨b, rfl, hb⟩ := C7 h1
 exact ⟨⟨⟨a, b⟩, ha, hb⟩, rfl⟩
theorem Eh {g : Nat} {xs : List D} (h : Bf Tryz.prog (g + 3) 44 xs) : ∃ l : List Fo, xs = [AO l] ∧ BH l := by
 obtain ⟨l, rfl, _⟩ := Fg (sz := 2) (eb := 16) Tryz.underlying44 (by kernel_rfl) (by kernel_rfl) (f := fun o : {o : Fo // AX o.kind ∧ AX o.val} => o.1.cells) (fun _ h => YT h) h
 refine ⟨l.map Subtype.val, by show _ = [D.l 2 16 ((l.map Subtype.val).map Fo.cells)]; rw [List.map_map]; rfl, fun o ho => ?_⟩
 obtain ⟨x, _, rfl⟩ := List.mem_map.1 ho
 exact x.2
theorem Vq {g : Nat} {xs : List D} (h : Bf Tryz.prog (g + 4) 140 xs) : ∃ p : {p : Pl // BH p.guard ∧ AX p.var ∧ BH p.value}, xs = p.1.cells := by
 obtain ⟨p0, p1, p2, p3, rfl, h0, h1, h2, h3⟩ := Gh Tryz.underlying140 h
 obtain ⟨a, rfl, ha⟩ := Eh h0
 obtain ⟨b, rfl, hb⟩ := C7 h1
 obtain ⟨c, rfl, hc⟩ := Eh h2
 obtain ⟨e, rfl⟩ := VY h3
 exact ⟨⟨⟨a, b, c, e⟩, ha, hb, hc⟩, rfl⟩
theorem SP {g : Nat} {xs : List D} (h : Bf Tryz.prog (g + 5) 41 xs) : ∃ l : List Pl, xs = [GL l] ∧ ∀ p ∈ l, BH p.guard ∧ AX p.var ∧ BH p.value := by
 obtain ⟨l, rfl, _⟩ := Fg (sz := 4) (eb := 64) Tryz.underlying41 (by kernel_rfl) (by kernel_rfl) (f := fun p : {p : Pl // BH p.guard ∧ AX p.var ∧ BH p.value} => p.1.cells) (fun _ h => Vq h) h
 refine ⟨l.map Subtype.val, by show _ = [D.l 4 64 ((l.map Subtype.val).map Pl.cells)]; rw [List.map_map]; rfl, fun o ho => ?_⟩
 obtain ⟨x, _, rfl⟩ := List.mem_map.1 ho
 exact x.2
theorem MU {g : Nat} {xs : List D} (h : Bf Tryz.prog (g + 2) 40 xs) : ∃ a b : Int, xs = [.i .i64 a, .i .i64 b] ∧ AX a ∧ AX b := by
 obtain ⟨p0, p1, rfl, h0, h1⟩ := Mc Tryz.underlying40 h
 obtain ⟨a, rfl, ha⟩ := C7 h0
 obtain ⟨b, rfl, hb⟩ := C7 h1
 exact ⟨a, b, rfl, ha, hb⟩
theorem Fb {g : Nat} {xs : List D} (h : Bf Tryz.prog (g + 6) 43 xs) : ∃ d : De, xs = d.cells ∧ TY d := by
 obtain ⟨p0, p1, p2, p3, rfl, h0, h1, h2, h3⟩ := Gh Tryz.underlying43 h
 obtain ⟨a, b, rfl, ha, hb⟩ := MU h0
 obtain ⟨c, e, rfl, hc, he⟩ := MU h1
 obtain ⟨i, j, rfl, hi, hj⟩ := MU h2
 obtain ⟨l, rfl, hl⟩ := SP h3
 exact ⟨⟨a, b, c, e, i, j, l⟩, rfl, ha, hb, hc, he, hi, hj, hl⟩
end Go.Proofs.YtnlfhnbcdfdhgaaGreatDoor
namespace Go.Sp
open Go Go.Av
def Qq (o : Fo) : Fo := ⟨1 + pk o.kind 4, if 1 + pk o.kind 4 = 1 then pk o.val 12 else if 1 + pk o.kind 4 = 3 then pk o.val 120 else 0⟩
def C8 (l : List Fo) (most : Nat) : List Fo := (l.take most).map Qq
def okM (m : Fo) : Prop := (1 ≤ m.kind ∧ m.kind ≤ 4) ∧ 0 ≤ m.val ∧ m.val ≤ 2147483647
theorem aD (o : Fo) : okM (Qq o) := by
 have h1 := BE o.kind (many := 4) (by decide)
 have h2 := BE o.val (many := 12) (by decide)
 have h3 := BE o.val (many := 120) (by decide)
 unfold okM Qq
 dsimp only
 split
 · omega
 split <;> omega
theorem Ie (l : List Fo) (most : Nat) : ∀ m ∈ C8 l most, okM m := fun m h => by
 obtain ⟨o, _, rfl⟩ := List.mem_map.1 h
 exact aD o
theorem F2 (l : List Fo) (most : Nat) : (C8 l most).length ≤ most := by
 unfold C8; rw [List.length_map, List.length_take]; omega
theorem Tl : ∀ {l : List Fo}, (∀ m ∈ l, okM m) → Lm l = 0
 | [], _ => rfl
 | a :: l, h => by
   obtain ⟨h1, h2⟩ := h a List.mem_cons_self
   rw [Lm, if_neg (by omega), if_neg (by omega)]
   exact Tl fun m hm => h m (List.mem_cons_of_mem _ hm)
theorem Kf {l : List Fo} (h : ∀ m ∈ l, okM m) (hl : l.length ≤ 5000) : Hy l = 0 := by
 unfold Hy
 rw [if_neg (by omega)]
 exact Tl h
theorem Is {a : List Fo} (ha : ∀ m ∈ a, okM m) (k : Nat) : ∀ m ∈ a.take k, okM m := fun m h => ha m (List.mem_of_mem_take h)
theorem ON {t : Tk} {e : Exp} (he : An t = (some e, 0)) : exG t = ⟨e.spots, (A3 t).1.length, e.next, e.sets, (Ai t.formula t.props.length).1.length⟩ := by
 unfold exG; rw [he]
end Go.Sp
namespace Go.Proofs.YtnlfhnbcdfdhgaaGreatDoor
open Go Go.Av Go.Sp
theorem GO : Cal Tryz.prog 21 := Cal.of Tryz.func21 (by kernel_rfl) (by kernel_rfl)
theorem Bo : Cal Tryz.prog 22 := Cal.of Tryz.func22 (by kernel_rfl) (by kernel_rfl)
theorem Vm {g : Nat} {xs : List D} (h : Bf Tryz.prog (g + 2) 114 xs) : ∃ o : {o : Fo // AX o.kind ∧ AX o.val}, xs = o.1.cells := by
 obtain ⟨p0, p1, rfl, h0, h1⟩ := Gi Tryz.underlying114 h
 obtain ⟨a, rfl, ha⟩ := C7 h0
 obtain ⟨b, rfl, hb⟩ := C7 h1
 exact ⟨⟨⟨a, b⟩, ha, hb⟩, rfl⟩
theorem GY {g : Nat} {xs : List D} (h : Bf Tryz.prog (g + 3) 45 xs) : ∃ l : List Fo, xs = [AO l] ∧ BH l := by
 obtain ⟨l, rfl, _⟩ := Fg (sz := 2) (eb := 16) Tryz.underlying45 (by kernel_rfl) (by kernel_rfl) (f := fun o : {o : Fo // AX o.kind ∧ AX o.val} => o.1.cells) (fun _ h => Vm h) h
 refine ⟨l.map Subtype.val, by show _ = [D.l 2 16 ((l.map Subtype.val).map Fo.cells)]; rw [List.map_map]; rfl, fun o ho => ?_⟩
 obtain ⟨x, _, rfl⟩ := List.mem_map.1 ho
 exact x.2
theorem Hk (t : Tk) (e : Exp) (he : An t = (some e, 0)) (l : List Fo) (hm : Hy l = 0) : ACr Tryz.prog GP 22 [tkA t, .d (AO l)] (.tup [ouA (ML t (runM t l)), .bool true]) := by
 have hR := SRun t l
 have e1 : Cr t l = (ML t (runM t l), 0) := by
  unfold Cr
  rw [if_neg (by rw [he]; exact fun k => k rfl), if_neg (fun k => k hm)]
 rw [e1] at hR
 dsimp only at hR
 generalize ML t (runM t l) = o at hR
 refine Bm (rs := [.cell 4 33, .tmp 5]) Tryz.f22.ntmps Tryz.func22 rfl rfl rfl (by simp [Tryz.ntmps22]) fun W I => ?_
 repeat' (first
  | refine ca Px (hR) ?_
  | exact True.intro | refine AG ?_ | refine two ?_ ?_ | refine AF fun c_ => ?_
  | (refine imp fun hc => ?_) <;> try exact cx1 hc
  | refine all fun v_ => ?_)
 rename_i b2 b4
 refine HA (VS.take (hc := [.cells b4 33 [.bool o.up, .int o.found, .int o.thr, .int o.safe, .int o.again, .bool o.done, .bool o.holds]]) (by exact AD) (Env.le_refl _)) (xs := [ouA o, .bool true]) ⟨Ax rfl (by (with_reducible exact ElC.h)) rfl (by exact Ab) rfl, Az rfl, trivial⟩ rfl (h' := []) (List.nil_sublist _) (AB rfl)
theorem PW (l : List Fo) (hr : BH l) (most : Nat) (hm : most ≤ 1000) : ACr Tryz.prog GP 21 [.d (AO l), .int most] (.d (AO (C8 l most))) := by
 refine AJ (ts := [4]) Tryz.f21.ntmps Tryz.func21 rfl rfl rfl (by simp [Tryz.ntmps21]) fun W I => ?_
 refine F6 (E := 59) (sz := 2) Fo.cells ?_
 repeat' (first
  | refine ca Px (hR) ?_
  | exact True.intro | refine AP ?_ | refine two ?_ ?_
  | (refine imp fun hc => ?_) <;> try exact cx hc
  | refine all fun v_ => ?_)
 refine AM (X := Nat × Sl) (fun y => [(0, .d (AO l)), (1, .int most), (5, .val y.2.v), (6, .int y.1)]) (fun y => [AH y.2.v 59 2 Fo.cells (C8 l y.1)]) (fun y => y.1 ≤ l.length ∧ y.1 ≤ most) (fun y => most - y.1) (0, Sl.nil) ⟨Nat.zero_le _, Nat.zero_le _⟩ (VS.take (by exact AD) ?_) ?_
 · exact leD
 rintro ⟨i, q⟩ ⟨h1, h2⟩
 dsimp only at h1 h2 ⊢
 have hml := F2 l i
 by_cases hil : i < l.length
 · by_cases him : i < most
   · have ho := hr l[i] (List.getElem_mem hil)
     have hK := TK GP l[i].kind 4 (by decide) ho.1
     have hW := TK GP l[i].val 12 (by decide) ho.2
     have hC := TK GP l[i].val 120 (by decide) ho.2
     have hb := BE l[i].kind (many := 4) (by decide)
     have et : C8 l (i + 1) = C8 l i ++ [Qq l[i]] := by unfold C8; rw [List.take_succ_eq_append_getElem hil, List.map_append]; rfl
     have hg : Qq l[i] = ⟨1 + pk l[i].kind 4, if 1 + pk l[i].kind 4 = 1 then pk l[i].val 12 else if 1 + pk l[i].kind 4 = 3 then pk l[i].val 120 else 0⟩ := rfl
     by_cases c1 : 1 + pk l[i].kind 4 = 1
     · rw [if_pos c1] at hg
       repeat' (first
        | refine ca CS (hK) ?_
        | refine ca CS (hW) ?_
        | refine ca CS (hC) ?_
        | ((with_reducible apply (BX (f := Fo.cells) (u := ⟨1 + pk l[i].kind 4, pk l[i].val 12⟩))); (focus rfl); (focus rfl); (focus (with_reducible exact ElC.h)); (focus exact BS); (iterate 4 focus rfl); (focus exact Af); (focus exact Af))
        | exact True.intro | refine AG ?_ | refine two ?_ ?_ | refine AF fun c_ => ?_
        | (refine imp fun hc => ?_) <;> try exact cx1 hc
        | refine all fun v_ => ?_)
       refine ⟨(i + 1, v_), ⟨hil, him⟩, by dsimp only; omega, VS.take (by dsimp only; rw [et, hg]; exact AD) ?_⟩
       exact leD
     · by_cases c3 : 1 + pk l[i].kind 4 = 3
       · rw [if_neg c1, if_pos c3] at hg
         repeat' (first
          | refine ca CS (hK) ?_
          | refine ca CS (hW) ?_
          | refine ca CS (hC) ?_
          | ((with_reducible apply (BX (f := Fo.cells) (u := ⟨1 + pk l[i].kind 4, pk l[i].val 120⟩))); (focus rfl); (focus rfl); (focus (with_reducible exact ElC.h)); (focus exact BS); (iterate 4 focus rfl); (focus exact Af); (focus exact Af))
          | exact True.intro | refine AG ?_ | refine two ?_ ?_ | refine AF fun c_ => ?_
          | (refine imp fun hc => ?_) <;> try exact cx1 hc
          | refine all fun v_ => ?_)
         refine ⟨(i + 1, v_), ⟨hil, him⟩, by dsimp only; omega, VS.take (by dsimp only; rw [et, hg]; exact AD) ?_⟩
         exact leD
       · rw [if_neg c1, if_neg c3] at hg
         repeat' (first
          | refine ca CS (hK) ?_
          | refine ca CS (hW) ?_
          | refine ca CS (hC) ?_
          | ((with_reducible apply (BX (f := Fo.cells) (u := ⟨1 + pk l[i].kind 4, 0⟩))); (focus rfl); (focus rfl); (focus (with_reducible exact ElC.h)); (focus exact BS); (iterate 4 focus rfl); (focus exact Af); (focus exact Af))
          | exact True.intro | refine AG ?_ | refine two ?_ ?_ | refine AF fun c_ => ?_
          | (refine imp fun hc => ?_) <;> try exact cx1 hc
          | refine all fun v_ => ?_)
         refine ⟨(i + 1, v_), ⟨hil, him⟩, by dsimp only; omega, VS.take (by dsimp only; rw [et, hg]; exact AD) ?_⟩
         exact leD
   · obtain rfl : i = most := by omega
     repeat' (first
      | exact True.intro | refine AG ?_ | refine two ?_ ?_ | refine AF fun c_ => ?_
      | (refine imp fun hc => ?_) <;> try exact cx1 hc
      | refine all fun v_ => ?_)
     refine AN (VS.trans (By (t := 4) (eb := 16) rfl rfl (fun x => rfl) (by omega)) (VS.drop (List.nil_sublist _))) ?_
     ((with_reducible apply rq1); rfl; rfl)
     exact AB rfl
 · have et : C8 l i = C8 l most := by unfold C8; rw [List.take_of_length_le (by omega), List.take_of_length_le (by omega)]
   repeat' (first
    | exact True.intro | refine AG ?_ | refine two ?_ ?_ | refine AF fun c_ => ?_
    | (refine imp fun hc => ?_) <;> try exact cx1 hc
    | refine all fun v_ => ?_)
   refine AN (VS.trans (By (t := 4) (eb := 16) rfl rfl (fun x => rfl) (by omega)) (VS.drop (List.nil_sublist _))) ?_
   ((with_reducible apply rq1); rfl; rfl)
   exact AB (by rw [← et])
end Go.Proofs.YtnlfhnbcdfdhgaaGreatDoor
