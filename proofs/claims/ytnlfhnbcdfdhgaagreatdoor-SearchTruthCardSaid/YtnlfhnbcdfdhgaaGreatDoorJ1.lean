/- Own texts. -/
import Derived.Test.YtnlfhnbcdfdhgaaGreatDoorF3
set_option linter.unusedVariables false
set_option linter.unusedSimpArgs false
set_option maxRecDepth 100000
set_option maxHeartbeats 4000000
namespace Go.Av
open Go
section
variable {k : Kx} {Q : Exit → Env → H → Prop} {ρ ρ' : Env} {h h' : H} {ops : Array Oper} {l : List Oper} {dst : Option Tmp} {ty : TypeId} {pos : String} {after : Array Edge} {g : Option (Nat × Bool)}
end
section
variable {P : Program} {G : List (Nat × List D)} {ρ : Env} {h : H} {dst : Option Tmp} {ty : TypeId} {pos : String} {after : Array Edge} {g : Option (Nat × Bool)}
end
section
variable {k : Kx} {Q : Exit → Env → H → Prop} {N : Env → H → Prop} {ρ ρ' : Env} {h h' : H} {ops : Array Oper} {l : List Oper} {d : Nat} {op : Op} {ty : TypeId} {pos : String} {after : Array Edge} {id id' : Nat} {ch : List PanicEntry}
theorem bq_exit' (hne : id' ≠ id) (h1 : Q (.exit id') ρ h) : IY id Q (.exit id') ρ h := by simp only [IY, if_neg hne]; exact h1
end
section
variable {k : Kx} {Q : Exit → Env → H → Prop} {ρ ρ' : Env} {h h1 h2 : H} {ops : Array Oper} {l : List Oper} {d : Nat} {dst : Option Tmp} {ty : TypeId} {pos : String} {after : Array Edge} {g : Option (Nat × Bool)}
end
end Go.Av
namespace Go.Sp
open Go.Av
section
variable {nx : Nat → List Nat} {n : Nat} {x : Option Nat} {s : TS}
end
section
variable {nx : Nat → List Nat} {n : Nat} {x : Option Nat} {s : TS}
namespace AtEnd
variable {a : Nat}
end AtEnd
end
open Go.Av
theorem iB {nx : Nat → List Nat} {u v : Nat} : partOf nx u = partOf nx v ↔ Rch nx u v ∧ Rch nx v u := by
 obtain ⟨k, e, a1, a2, a3⟩ := KM nx u
 obtain ⟨k', e', b1, b2, b3⟩ := KM nx v
 constructor
 · intro h
   have : k = k' := by omega
   subst this
   exact ⟨a1.trans b2, b1.trans a2⟩
 · rintro ⟨h1, h2⟩
   exact (VD (v := u) ⟨k', e', h1.trans b1, b2.trans h2, fun w c1 c2 => b3 w (h2.trans c1) (c2.trans h1)⟩).symm
open Go Go.Av
theorem gW (x s : Nat) : (((x : Int) / 2 ^ s) % 2 = 1) ↔ x.testBit s = true := by
 rw [Nat.testBit_eq_decide_div_mod_eq, decide_eq_true_iff]
 have e : ((x : Int) / 2 ^ s) % 2 = ((x / 2 ^ s % 2 : Nat) : Int) := by simp
 rw [e]
 omega
theorem WI.nil (nx : Nat → List Nat) (n : Nat) (fr : List Nat) (ins : Nat → Bool) : WI nx n fr ins [] := ⟨List.nodup_nil, fun j h => (by simp at h)⟩
variable {nx : Nat → List Nat} {n : Nat} {fr : List Nat} {ins wnt : Nat → Bool} {ps : List (Int × Int)}
theorem WI.add (w : WI nx n fr ins ps) {k : Nat} {v : Int} (hno : getM ps (k : Int) = none) (hk : k < n) (hv : (v = -1 ∧ k ∈ fr) ∨ ∃ (i : Nat) (hi : i < ps.length) (p : Nat), ps[i].1 = p ∧ v = p ∧ k ∈ nx p ∧ ins k = true) : WI nx n fr ins (ps ++ [((k : Int), v)]) := by
 refine ⟨?_, fun j h => ?_⟩
 · rw [List.map_append, List.nodup_append]
   refine ⟨w.nodup, by simp, fun a ha b hb e => ?_⟩
   obtain ⟨p, hp, rfl⟩ := List.mem_map.1 ha
   simp at hb
   exact (getM_none.1 hno) p hp (e.trans hb)
 · by_cases hj : j < ps.length
   · obtain ⟨k', h1, h2, h3⟩ := w.key j hj
     refine ⟨k', by rw [List.getElem_append_left hj]; exact h1, h2, ?_⟩
     rw [List.getElem_append_left hj]
     rcases h3 with h3 | ⟨i, hi, p, e1, e2, e3⟩
     · exact .inl h3
     · exact .inr ⟨i, hi, p, by rw [List.getElem_append_left (by omega)]; exact e1, e2, e3⟩
   · obtain rfl : j = ps.length := by simp at h; omega
     refine ⟨k, by simp, hk, ?_⟩
     rw [List.getElem_append_right (Nat.le_refl _)]
     simp only [Nat.sub_self, List.getElem_cons_zero]
     rcases hv with hv | ⟨i, hi, p, e1, e2, e3⟩
     · exact .inl hv
     · exact .inr ⟨i, hi, p, by rw [List.getElem_append_left hi]; exact e1, e2, e3⟩
theorem WI.len (w : WI nx n fr ins ps) : ps.length ≤ n := by
 have key : ∀ (m : Nat) (xs : List Int), xs.Nodup → (∀ x ∈ xs, 0 ≤ x ∧ x < (m : Int)) → xs.length ≤ m := by
  intro m
  induction m with
  | zero =>
    intro xs _ h
    cases xs with
    | nil => exact Nat.le_refl _
    | cons x _ => have := h x List.mem_cons_self; omega
  | succ m ih =>
    intro xs hn h
    have i1 := ih (xs.erase m) (hn.erase _) fun x hx => by
     have h1 := h x (List.mem_of_mem_erase hx)
     have h2 : x ≠ m := fun e => by subst e; exact (List.Nodup.not_mem_erase hn) hx
     omega
    have := List.length_erase (a := (m : Int)) (l := xs)
    split at this <;> omega
 have := key n (ps.map (·.1)) w.nodup fun x hx => by
  obtain ⟨p, hp, rfl⟩ := List.mem_map.1 hx
  obtain ⟨j, hj, rfl⟩ := List.getElem_of_mem hp
  obtain ⟨k, h1, h2, _⟩ := w.key j hj
  omega
 rwa [List.length_map] at this
theorem fe {k : Nat} : isKey ps k ↔ ∃ (j : Nat) (h : j < ps.length), ps[j].1 = k := by
 unfold isKey
 rw [Ne, getM_none]
 constructor
 · intro h
   obtain ⟨p, h⟩ := Classical.not_forall.1 h
   obtain ⟨hp, h⟩ := Classical.not_imp.1 h
   obtain ⟨j, hj, rfl⟩ := List.getElem_of_mem hp
   exact ⟨j, hj, Decidable.not_not.1 h⟩
 · rintro ⟨j, hj, e⟩ h
   exact h _ (List.getElem_mem hj) e
theorem iG {k k' : Nat} {v : Int} : isKey (ps ++ [((k : Int), v)]) k' ↔ isKey ps k' ∨ k' = k := by
 rw [fe, fe]
 constructor
 · rintro ⟨j, hj, e⟩
   by_cases h : j < ps.length
   · rw [List.getElem_append_left h] at e; exact .inl ⟨j, h, e⟩
   · obtain rfl : j = ps.length := by simp at hj; omega
     rw [List.getElem_append_right (Nat.le_refl _)] at e
     simp at e
     exact .inr (by omega)
 · rintro (⟨j, hj, e⟩ | rfl)
   · exact ⟨j, by simp; omega, by rw [List.getElem_append_left hj]; exact e⟩
   · exact ⟨ps.length, by simp, by simp⟩
theorem WS.noway (s : WS nx n fr ins wnt ps [] none) : ∀ v, bA nx fr ins v → wnt v = false := fun v hv => by
 refine s.un v ?_
 induction hv with
 | base h => exact s.first _ h
 | step _ e hi ih => exact s.cl _ ih (by simp) (fun m => by simp) _ e hi
theorem WS.pop {i : Nat} {td : List Int} (s : WS nx n fr ins wnt ps ((i : Int) :: td) none) : WS nx n fr ins wnt ps td (some (i, 0)) := by
 refine ⟨s.wi, s.first, fun y hy => s.todo y (List.mem_cons_of_mem _ hy), s.un, fun k hk hn hx y hy hi => ?_, fun k m e => ?_⟩
 · refine s.cl k hk (fun h => ?_) (fun m => by simp) y hy hi
   rcases List.mem_cons.1 h with h | h
   · exact hx 0 (by congr 2; omega)
   · exact hn h
 · cases e
   obtain ⟨k, e, hk⟩ := s.todo _ List.mem_cons_self
   obtain rfl : i = k := by omega
   exact ⟨hk, fun y hy => by simp at hy⟩
theorem WS.skip {i m : Nat} {td : List Int} (s : WS nx n fr ins wnt ps td (some (i, m))) (h : m < (nx i).length) (ho : isKey ps (nx i)[m] ∨ ins (nx i)[m] = false) : WS nx n fr ins wnt ps td (some (i, m + 1)) := by
 obtain ⟨p1, p2⟩ := s.part i m rfl
 refine ⟨s.wi, s.first, s.todo, s.un, fun k hk hn hx => s.cl k hk hn fun m' e => ?_, fun k m' e => ?_⟩
 · cases e; exact hx _ rfl
 · cases e
   refine ⟨p1, fun y hy hi => ?_⟩
   rw [List.take_succ_eq_append_getElem h] at hy
   rcases List.mem_append.1 hy with hy | hy
   · exact p2 y hy hi
   · rw [List.mem_singleton.1 hy] at hi ⊢
     rcases ho with ho | ho
     · exact ho
     · rw [ho] at hi; cases hi
theorem WS.meet {i m : Nat} {td : List Int} (s : WS nx n fr ins wnt ps td (some (i, m))) (hn : ∀ i, ∀ k ∈ nx i, k < n) (h : m < (nx i).length) (hno : getM ps ((nx i)[m] : Int) = none) (hi : ins (nx i)[m] = true) (hw : wnt (nx i)[m] = false) : WS nx n fr ins wnt (ps ++ [(((nx i)[m] : Int), (i : Int))]) (td ++ [((nx i)[m] : Int)]) (some (i, m + 1)) := by
 obtain ⟨p1, p2⟩ := s.part i m rfl
 obtain ⟨j, hj, e1⟩ := fe.1 p1
 have hk : ∀ k, isKey (ps ++ [(((nx i)[m] : Int), (i : Int))]) k ↔ isKey ps k ∨ k = (nx i)[m] := fun k => iG
 refine ⟨s.wi.add hno (hn i _ (List.getElem_mem h)) (.inr ⟨j, hj, i, e1, rfl, List.getElem_mem h, hi⟩), fun k hfr => (hk k).2 (.inl (s.first k hfr)), fun y hy => ?_, fun k hk' => ?_, fun k hk' hnt hx y hy hiy => ?_, fun k m' e => ?_⟩
 · rcases List.mem_append.1 hy with hy | hy
   · obtain ⟨k, e, h⟩ := s.todo y hy
     exact ⟨k, e, (hk k).2 (.inl h)⟩
   · exact ⟨_, List.mem_singleton.1 hy, (hk _).2 (.inr rfl)⟩
 · rcases (hk k).1 hk' with h | rfl
   · exact s.un k h
   · exact hw
 · rcases (hk k).1 hk' with hkp | rfl
   · exact (hk y).2 (.inl (s.cl k hkp (fun h => hnt (List.mem_append_left _ h)) (fun m' e => hx _ (by cases e; rfl)) y hy hiy))
   · exact absurd (List.mem_append_right td (List.mem_singleton.2 rfl)) hnt
 · cases e
   refine ⟨(hk i).2 (.inl p1), fun y hy hiy => ?_⟩
   rw [List.take_succ_eq_append_getElem h] at hy
   rcases List.mem_append.1 hy with hy | hy
   · exact (hk y).2 (.inl (p2 y hy hiy))
   · exact (hk y).2 (.inr (List.mem_singleton.1 hy))
theorem WS.done {i : Nat} {td : List Int} (s : WS nx n fr ins wnt ps td (some (i, (nx i).length))) : WS nx n fr ins wnt ps td none := by
 obtain ⟨p1, p2⟩ := s.part i _ rfl
 rw [List.take_length] at p2
 refine ⟨s.wi, s.first, s.todo, s.un, fun k hk hn _ y hy hi => ?_, fun k m e => by cases e⟩
 by_cases e : k = i
 · subst e; exact p2 y hy hi
 · exact s.cl k hk hn (fun m h => e (by cases h; rfl)) y hy hi
def kAt (ps : List (Int × Int)) (p : Nat) : Int := if p = 0 then -1 else ((ps[p - 1]?).map (·.1)).getD 0
theorem iU (ps : List (Int × Int)) : kAt ps 0 = -1 := rfl
theorem fq (ps : List (Int × Int)) (j : Nat) (h : j < ps.length) : kAt ps (j + 1) = ps[j].1 := by
 unfold kAt; rw [if_neg (by omega), Nat.add_sub_cancel, List.getElem?_eq_getElem h]; rfl
structure gq (nx : Nat → List Nat) (n : Nat) (fr : List Nat) (ins wnt : Nat → Bool) (ps : List (Int × Int)) (p : Nat) (l : List Nat) : Prop where
 le : p ≤ ps.length
 more : 0 < p → ∀ k : Nat, kAt ps p = k → IV nx ins (k :: l) ∧ ∀ a, (k :: l).getLast? = some a → wnt a = true
 lt : ∀ a ∈ l, a < n
 fin : p = 0 → dx nx n fr ins wnt l
theorem ig (w : (ps.map (·.1)).Nodup) (j : Nat) (h : j < ps.length) : getM ps ps[j].1 = some ps[j].2 := by
 induction ps generalizing j with
 | nil => simp at h
 | cons q ps ih =>
   cases j with
   | zero => simp [getM]
   | succ j =>
     rw [List.map_cons, List.nodup_cons] at w
     have hne : ¬ q.1 = (ps[j]'(by simpa using h)).1 := fun e => w.1 (e ▸ List.mem_map.2 ⟨_, List.getElem_mem (by simpa using h), rfl⟩)
     have := ih w.2 j (by simpa using h)
     simp only [List.getElem_cons_succ]
     rw [← this]
     simp [getM, hne]
theorem gq.step {j : Nat} {l : List Nat} (w : WI nx n fr ins ps) (b : gq nx n fr ins wnt ps (j + 1) l) : ∃ k : Nat, ∃ p : Nat, kAt ps (j + 1) = k ∧ getM ps (k : Int) = some (kAt ps p) ∧ p ≤ j ∧ gq nx n fr ins wnt ps p (k :: l) := by
 have hj : j < ps.length := b.le
 obtain ⟨k, h1, h2, h3⟩ := w.key j hj
 have hk := fq ps j hj
 have hg := ig w.nodup j hj
 rw [h1] at hg hk
 obtain ⟨c1, c2⟩ := b.more (by omega) k hk
 have hlt : ∀ a ∈ k :: l, a < n := fun a ha => by
  rcases List.mem_cons.1 ha with rfl | ha
  · exact h2
  · exact b.lt a ha
 rcases h3 with ⟨e, hfr⟩ | ⟨i, hi, p, e1, e2, e3, e4⟩
 · refine ⟨k, 0, hk, by rw [hg, e]; rfl, Nat.zero_le _, Nat.zero_le _, fun h => absurd h (by omega), hlt, fun _ => ⟨by simp, fun a ha => ?_, c1, c2, hlt⟩⟩
   simp at ha; subst ha; exact hfr
 · have hkp := fq ps i (by omega)
   rw [e1] at hkp
   refine ⟨k, i + 1, hk, by rw [hg, e2, hkp], by omega, by omega, fun _ k' hk' => ?_, hlt, fun h => absurd h (by omega)⟩
   obtain rfl : p = k' := by omega
   exact ⟨⟨⟨e3, e4⟩, c1⟩, fun a ha => c2 a (by rwa [List.getLast?_cons_cons] at ha)⟩
theorem gq.start {j k : Nat} (w : WI nx n fr ins ps) (hj : j < ps.length) (hk : ps[j].1 = k) (hw : wnt k = true) : gq nx n fr ins wnt ps (j + 1) [] := by
 refine ⟨hj, fun _ k' hk' => ?_, fun a ha => (by cases ha), fun h => absurd h (by omega)⟩
 rw [fq ps j hj, hk] at hk'
 obtain rfl : k = k' := by omega
 exact ⟨trivial, fun a ha => by simp at ha; subst ha; exact hw⟩
theorem WS.start (hn : fr.Nodup) (hlt : ∀ k ∈ fr, k < n) (hw : ∀ k ∈ fr, wnt k = false) : WS nx n fr ins wnt (fr.map fun k : Nat => ((k : Int), (-1 : Int))) (fr.map fun k : Nat => (k : Int)) none := by
 have hk : ∀ k, isKey (fr.map fun k : Nat => ((k : Int), (-1 : Int))) k ↔ k ∈ fr := fun k => by
  rw [fe]
  constructor
  · rintro ⟨j, hj, e⟩
    rw [List.getElem_map] at e
    have hj' : j < fr.length := by simpa using hj
    have : fr[j] = k := by dsimp only at e; omega
    rw [← this]; exact List.getElem_mem hj'
  · intro h
    obtain ⟨j, hj, rfl⟩ := List.getElem_of_mem h
    exact ⟨j, by simpa using hj, by rw [List.getElem_map]⟩
 refine ⟨⟨?_, fun j h => ?_⟩, fun k h => (hk k).2 h, fun y hy => ?_, fun k h => hw k ((hk k).1 h), fun k h hno => ?_, fun k m e => by cases e⟩
 · rw [List.map_map]
   exact List.Pairwise.map _ (fun a b h e => h (by dsimp only [Function.comp] at e; omega)) hn
 · have hj' : j < fr.length := by simpa using h
   refine ⟨fr[j], by rw [List.getElem_map], hlt _ (List.getElem_mem hj'), .inl ⟨by rw [List.getElem_map], List.getElem_mem hj'⟩⟩
 · obtain ⟨k, hkm, rfl⟩ := List.mem_map.1 hy
   exact ⟨k, rfl, (hk k).2 hkm⟩
 · exact absurd (List.mem_map.2 ⟨k, (hk k).1 h, rfl⟩) hno
theorem gD (g : Gn) {i : Nat} (h : i < g.spots.length) : ((ni (EP g) i : Nat) : Int) = partOf g.nx i := by
 have h1 := Ir (nx := g.nx) i
 rw [MJ _ _ (by rw [JG]; exact h)]
 simp only [EP, List.getElem_map, List.getElem_range]
 omega
theorem fV (g : Gn) {i k : Nat} (hi : i < g.spots.length) (hk : k < g.spots.length) : ni (EP g) i = ni (EP g) k ↔ Rch g.nx i k ∧ Rch g.nx k i := by
 rw [← iB, ← gD g hi, ← gD g hk]
 omega
theorem Rch.head {nx : Nat → List Nat} {i j : Nat} (h : Rch nx i j) : i = j ∨ ∃ k ∈ nx i, Rch nx k j := by
 induction h with
 | refl => exact .inl rfl
 | step _ e ih =>
   rcases ih with rfl | ⟨k, hk, h⟩
   · exact .inr ⟨_, e, .refl _⟩
   · exact .inr ⟨k, hk, .step h e⟩
section
variable {g : Gn} {h : Nat}
theorem gP (hok : g.ok) {i v : Nat} (hi : i < g.spots.length) (hih : ni (EP g) i = h) (h1 : Rch g.nx i v) (h2 : Rch g.nx v i) : bA g.nx [i] (insP g h) v := by
 induction h1 with
 | refl => exact .base (List.mem_singleton.2 rfl)
 | step h3 e ih =>
   have h4 := (Rch.one e).trans h2
   refine .step (ih h4) e ?_
   have hk := g.nx_lt hok _ _ e
   unfold insP
   rw [decide_eq_true_iff, ← hih, fV g hk hi]
   exact ⟨h2, h3.step e⟩
theorem fM.found {nx : Nat → List Nat} {n : Nat} {fr : List Nat} {ins wnt : Nat → Bool} {l : List Nat} (w : fM nx n fr ins wnt l) {v : Nat} (hv : bA nx fr ins v) (hw : wnt v = true) : dx nx n fr ins wnt l := by
 rcases w with w | ⟨_, w⟩
 · exact w
 · rw [w v hv] at hw; cases hw
theorem gA (hh : C2 g h) : bA g.nx (List.range g.init) (fun _ => true) h := by
 obtain ⟨j, hj, hr⟩ := hh
 induction hr with
 | refl => exact .base (List.mem_range.2 hj)
 | step _ e ih => exact .step ih e rfl
theorem gO (hok : g.ok) (hf : I4 g (EP g) h) {a s : Nat} (ha : a < g.spots.length) (hah : ni (EP g) a = h) (hs : s < g.many) : ∃ v, bA g.nx [a] (insP g h) v ∧ (ni g.sets v).testBit s = true := by
 obtain ⟨u, hu, e, hb⟩ := hf.2.2 s hs
 obtain ⟨r1, r2⟩ := (fV g ha hu).1 (hah.trans e.symm)
 exact ⟨u, gP hok ha hah r1 r2, hb⟩
theorem gJ (hok : g.ok) (hf : I4 g (EP g) h) {a : Nat} (ha : a < g.spots.length) (hah : ni (EP g) a = h) : ∃ k ∈ g.nx a, insP g h k = true := by
 obtain ⟨u, hu, e, w, hw, ew⟩ := hf.2.1
 obtain ⟨r1, r2⟩ := (fV g ha hu).1 (hah.trans e.symm)
 rcases r1.head with rfl | ⟨k, hk, r3⟩
 · exact ⟨w, hw, decide_eq_true ew⟩
 · refine ⟨k, hk, decide_eq_true ?_⟩
   rw [← e, fV g (g.nx_lt hok _ _ hk) hu]
   exact ⟨r3, r2.trans (Rch.one hk)⟩
theorem gI (hok : g.ok) (hh : h < g.spots.length) (hf : I4 g (EP g) h) {k : Nat} (hk : k < g.spots.length) (hkh : ni (EP g) k = h) : bA g.nx [k] (insP g h) h := by
 obtain ⟨r1, r2⟩ := (fV g hk hh).1 (hkh.trans hf.1.symm)
 exact gP hok hk hkh r1 r2
end
section
variable {nx : Nat → List Nat} {ins : Nat → Bool}
theorem IV.app : ∀ {l : List Nat} {a : Nat} {t : List Nat}, IV nx ins l → l.getLast? = some a → IV nx ins (a :: t) → IV nx ins (l ++ t)
 | [], a, t, _, h, _ => by simp at h
 | [x], a, t, _, h, c => by
   simp at h; subst h; exact c
 | x :: y :: l, a, t, c, h, d => by
   rw [List.getLast?_cons_cons] at h
   exact ⟨c.1, IV.app (l := y :: l) c.2 h d⟩
theorem IV.mono {ins' : Nat → Bool} (hi : ∀ k, ins k = true → ins' k = true) : ∀ {l : List Nat}, IV nx ins l → IV nx ins' l
 | [], _ => trivial
 | [_], _ => trivial
 | _ :: _ :: _, c => ⟨⟨c.1.1, hi _ c.1.2⟩, IV.mono hi c.2⟩
theorem IV.all : ∀ {a : Nat} {t : List Nat}, IV nx ins (a :: t) → ∀ x ∈ t, ins x = true
 | _, [], _, x, hx => by cases hx
 | _, y :: t, c, x, hx => by
   rcases List.mem_cons.1 hx with rfl | hx
   · exact c.1.2
   · exact IV.all c.2 x hx
end
theorem dx.cons {nx : Nat → List Nat} {n i : Nat} {ins wnt : Nat → Bool} {l : List Nat} (w : dx nx n [i] ins wnt l) : ∃ t, l = i :: t := by
 cases l with
 | nil => exact absurd rfl w.ne
 | cons a t => exact ⟨t, by rw [List.mem_singleton.1 (w.head a rfl)]⟩
theorem dx.back {nx : Nat → List Nat} {n h : Nat} {fr : List Nat} {ins : Nat → Bool} {l : List Nat} (w : dx nx n fr ins (fun k => decide (k = h)) l) : l = l.dropLast ++ [h] := by
 have h1 := List.dropLast_concat_getLast w.ne
 have h2 := w.last _ (List.getLast?_eq_some_getLast w.ne)
 rw [of_decide_eq_true h2] at h1
 exact h1.symm
section
variable {g : Gn} {h b met : Nat} {l : List Nat}
theorem LasI.start (hh : h < g.spots.length) (hf : I4 g (EP g) h) : LasI g h 0 [h] (ni g.sets h) :=
 ⟨rfl, trivial, fun a ha => (by rw [List.mem_singleton.1 ha]; exact ⟨hh, hf.1⟩), fun s hs => absurd hs (Nat.not_lt_zero s), fun s hs => ⟨h, List.mem_singleton.2 rfl, hs⟩⟩
theorem LasI.ne (w : LasI g h b l met) : l ≠ [] := fun e => by have := w.head; rw [e] at this; cases this
theorem LasI.skip (w : LasI g h b l met) (hb : met.testBit b = true) : LasI g h (b + 1) l met :=
 ⟨w.head, w.chain, w.ins, fun s hs => by
  by_cases e : s = b
  · subst e; exact w.met _ hb
  · exact w.bits s (by omega), w.met⟩
theorem LasI.join (w : LasI g h b l met) {a : Nat} {t : List Nat} {met' : Nat} (ha : l.getLast? = some a) (v : dx g.nx g.spots.length [a] (insP g h) (fun k => (ni g.sets k).testBit b) (a :: t)) (hm : ∀ s, met'.testBit s = true → met.testBit s = true ∨ ∃ x ∈ t, (ni g.sets x).testBit s = true) : LasI g h (b + 1) (l ++ t) met' := by
 have hal : a ∈ l := List.mem_of_getLast? ha
 refine ⟨?_, w.chain.app ha v.chain, fun x hx => ?_, fun s hs => ?_, fun s hs => ?_⟩
 · rw [List.head?_append, w.head]; rfl
 · rcases List.mem_append.1 hx with hx | hx
   · exact w.ins x hx
   · exact ⟨v.lt x (List.mem_cons_of_mem _ hx), of_decide_eq_true (v.chain.all x hx)⟩
 · by_cases e : s = b
   · subst e
     obtain ⟨z, hz⟩ : ∃ z, (a :: t).getLast? = some z := ⟨_, List.getLast?_eq_some_getLast (by simp)⟩
     have h1 := v.last z hz
     rcases List.mem_cons.1 (List.mem_of_getLast? hz) with rfl | hzt
     · exact ⟨z, List.mem_append_left _ hal, h1⟩
     · exact ⟨z, List.mem_append_right _ hzt, h1⟩
   · obtain ⟨x, hx, e⟩ := w.bits s (by omega)
     exact ⟨x, List.mem_append_left _ hx, e⟩
 · rcases hm s hs with h1 | ⟨x, hx, e⟩
   · obtain ⟨x, hx, e⟩ := w.met s h1
     exact ⟨x, List.mem_append_left _ hx, e⟩
   · exact ⟨x, List.mem_append_right _ hx, e⟩
end
theorem LasI.fits {g : Gn} {h met : Nat} {l ws w2 : List Nat} {a k : Nat} (w : LasI g h g.many l met) (ha : l.getLast? = some a) (hk : k ∈ g.nx a) (hki : insP g h k = true)
 (s : dx g.nx g.spots.length (List.range g.init) (fun _ => true) (fun k => decide (k = h)) ws) (v : dx g.nx g.spots.length [k] (insP g h) (fun k => decide (k = h)) w2) : FitP g ws.dropLast (l ++ w2.dropLast) := by
 obtain ⟨t, e2⟩ := v.cons
 have hb2 := v.back
 have hb1 := s.back
 have c1 : IV g.nx (insP g h) (l ++ w2) := w.chain.app ha (by rw [e2]; exact ⟨⟨hk, hki⟩, e2 ▸ v.chain⟩)
 have c2 : IV g.nx (fun _ => true) (l ++ w2) := c1.mono fun _ _ => rfl
 have hh := w.head
 have hd : (l ++ w2.dropLast).head? = some h := by rw [List.head?_append, hh]; rfl
 obtain ⟨l', rfl⟩ : ∃ l', l = h :: l' := by
  cases l with
  | nil => cases hh
  | cons x l' => cases hh; exact ⟨l', rfl⟩
 refine ⟨fun e => (by rw [e] at hd; cases hd), fun x hx => ?_, fun x hx => ?_, fun x hx => ?_, fun b hb => ?_⟩
 · rcases List.mem_append.1 hx with hx | hx
   · exact s.lt x (List.dropLast_subset _ hx)
   · rcases List.mem_append.1 hx with hx | hx
     · exact (w.ins x hx).1
     · exact v.lt x (List.dropLast_subset _ hx)
 · rw [hd] at hx
   cases hx
   have c3 : IV g.nx (fun _ => true) (ws ++ (l' ++ w2)) := by
    refine s.chain.app (a := h) (by rw [hb1, List.getLast?_append]; rfl) ?_
    exact c2
   rw [hb1, hb2] at c3
   simpa using c3
 · have : ws.head? = some x := by
    rw [hb1]
    rw [List.head?_append] at hx ⊢
    cases hw : ws.dropLast.head? with
    | none => rw [hw] at hx; rw [hd] at hx; exact hx
    | some y => rw [hw] at hx; exact hx
   exact List.mem_range.1 (s.head x this)
 · obtain ⟨x, hx, e⟩ := w.bits b hb
   exact ⟨x, List.mem_append_left _ hx, e⟩
theorem gE (l : List Fo) : ∀ (m i : Nat), l.length = i + m → ∀ (j : Nat) (p : Int), (DU (l.drop i) i)[j]? = some p → ∃ q : Nat, p = q ∧ i ≤ q ∧ q < l.length ∧ Ar (BJ l q) ∧ CG l q = CG l i + j
 | 0, i, h, j, p, hp => by rw [LK l i (by omega)] at hp; simp at hp
 | m + 1, i, h, j, p, hp => by
   have ih := gE l m (i + 1) (by omega)
   rw [Nr l i (by omega)] at hp
   have hr := Hj l i (by omega)
   by_cases hc : Ar l[i].kind
   · rw [if_pos hc] at hp hr
     cases j with
     | zero =>
       simp at hp
       exact ⟨i, hp.symm, Nat.le_refl _, by omega, by rw [Bq l i (by omega)]; exact hc, rfl⟩
     | succ j =>
       obtain ⟨q, h1, h2, h3, h4, h5⟩ := ih j p (by simpa using hp)
       exact ⟨q, h1, by omega, h3, h4, by omega⟩
   · rw [if_neg hc] at hp hr
     obtain ⟨q, h1, h2, h3, h4, h5⟩ := ih j p hp
     exact ⟨q, h1, by omega, h3, h4, by omega⟩
theorem fx {k : Int} (h : 8 ≤ k ∧ k ≤ 18) : k = 8 ∨ k = 9 ∨ k = 10 ∨ k = 11 ∨ k = 12 ∨ k = 13 ∨ k = 14 ∨ k = 15 ∨ k = 16 ∨ k = 17 ∨ k = 18 := by omega
def fp (k : Int) (A B : Nat → Bool) (nx : Nat → Nat) : La :=
 if k = 17 then ⟨A, fun _ => true, nx, false⟩
 else if k = 18 then ⟨fun i => !A i, fun _ => false, nx, true⟩
 else if k = 15 then ⟨fun i => B i || !A i, B, nx, false⟩
 else ⟨fun i => !B i || A i, B, nx, true⟩
theorem gH (k : Int) (A B : Nat → Bool) (nx : Nat → Nat) : (fp k A B nx).nxt = nx := by
 unfold fp
 by_cases h1 : k = 17
 · rw [if_pos h1]
 by_cases h2 : k = 18
 · rw [if_neg h1, if_pos h2]
 by_cases h3 : k = 15
 · rw [if_neg h1, if_neg h2, if_pos h3]
 rw [if_neg h1, if_neg h2, if_neg h3]
def fU (l : List Fo) (T : Nat → Nat → Bool) (i : Nat) : Nat → Int
 | 0 => 0
 | n + 1 => fU l T i n + if Ar (BJ l n) ∧ T n i = true then 2 ^ CG l n else 0
theorem fW (l : List Fo) (T : Nat → Nat → Bool) (i : Nat) : ∀ n, 0 ≤ fU l T i n ∧ fU l T i n < 2 ^ CG l n
 | 0 => by simp [fU, CG]
 | n + 1 => by
   have ih := fW l T i n
   have hp : (0 : Int) < 2 ^ CG l n := by exact_mod_cast Nat.pow_pos (by decide)
   simp only [fU, CG]
   by_cases c : Ar (BJ l n)
   · rw [if_pos c, Int.pow_succ]
     by_cases c2 : T n i = true
     · rw [if_pos ⟨c, c2⟩]; omega
     · rw [if_neg (fun h => c2 h.2)]; omega
   · rw [if_neg c, if_neg (fun h => c h.1)]; simpa using ih
theorem i5 (A B : Nat → Bool) (nx : Nat → Nat) (i : Nat) (x : Bool) : (fp 17 A B nx).step i x = (A i || x) := by
 show (if A i = true then true else x) = _
 cases A i <;> simp
theorem iz (A B : Nat → Bool) (nx : Nat → Nat) (i : Nat) (x : Bool) : (fp 18 A B nx).step i x = (A i && x) := by
 show (if (!A i) = true then false else x) = _
 cases A i <;> simp
theorem ix (A B : Nat → Bool) (nx : Nat → Nat) (i : Nat) (x : Bool) : (fp 15 A B nx).step i x = (B i || (A i && x)) := by
 show (if (B i || !A i) = true then B i else x) = _
 cases A i <;> cases B i <;> simp
theorem iy (A B : Nat → Bool) (nx : Nat → Nat) (i : Nat) (x : Bool) : (fp 16 A B nx).step i x = (B i && (A i || x)) := by
 show (if (!B i || A i) = true then B i else x) = _
 cases A i <;> cases B i <;> simp
theorem gu {x y c : Bool} (h : x ≠ c ↔ y ≠ c) : x = y := by revert h; cases x <;> cases y <;> cases c <;> simp
noncomputable def La.inf (a : La) (i : Nat) : Bool := open Classical in if ∃ k, a.up k i ≠ a.base then !a.base else a.base
theorem La.inf_iff (a : La) (i : Nat) : a.inf i ≠ a.base ↔ ∃ k, a.up k i ≠ a.base := by
 unfold La.inf
 by_cases h : ∃ k, a.up k i ≠ a.base
 · rw [if_pos h]; exact ⟨fun _ => h, fun _ => by cases a.base <;> decide⟩
 · rw [if_neg h]; exact ⟨fun k => absurd rfl k, fun k => absurd k h⟩
theorem La.inf_step (a : La) (i : Nat) : a.inf i = a.step i (a.inf (a.nxt i)) := by
 refine gu (c := a.base) ⟨fun h => ?_, fun h => (a.inf_iff i).2 ?_⟩
 · obtain ⟨k, hk⟩ := (a.inf_iff i).1 h
   cases k with
   | zero => exact absurd rfl hk
   | succ k =>
     rw [La.up] at hk
     by_cases c : a.up k (a.nxt i) = a.base
     · rw [c] at hk; exact a.step_mono hk _
     · rw [UI ((a.inf_iff _).2 ⟨k, c⟩) c]; exact hk
 · by_cases c : a.inf (a.nxt i) = a.base
   · rw [c] at h; exact ⟨1, h⟩
   · obtain ⟨k, hk⟩ := (a.inf_iff _).1 c
     exact ⟨k + 1, by rw [La.up, UI hk c]; exact h⟩
theorem La.fair_ex {a : La} {row : Nat → Bool} (hn : ∀ i, a.nxt i = i + 1) (h : ∀ i, row i = a.step i (row (i + 1))) : ∀ (d i : Nat), (row (i + d) = a.base ∨ a.stop (i + d) = true) → row i ≠ a.base → ∃ k, a.up k i ≠ a.base
 | d, i, hd, hr => by
   by_cases c : a.stop i = true
   · refine ⟨1, ?_⟩
     rw [h i, La.step, if_pos c] at hr
     show a.step i _ ≠ _
     rw [La.step, if_pos c]; exact hr
   · have e : row i = row (i + 1) := by rw [h i, La.step, if_neg c]
     cases d with
     | zero => exact hd.elim (fun k => absurd k hr) (fun k => absurd k c)
     | succ d =>
       obtain ⟨k, hk⟩ := La.fair_ex hn h d (i + 1) (by rw [show i + 1 + d = i + (d + 1) by omega]; exact hd) (e ▸ hr)
       refine ⟨k + 1, ?_⟩
       rw [La.up, La.step, if_neg c, hn]; exact hk
theorem La.fair_of {a : La} {row : Nat → Bool} (hn : ∀ i, a.nxt i = i + 1) (h : ∀ i, row i = a.step i (row (i + 1))) : ∀ (k i : Nat), a.up k i ≠ a.base → row i ≠ a.base
 | 0, _, hk => absurd rfl hk
 | k + 1, i, hk => by
   rw [h i]
   rw [La.up, hn] at hk
   by_cases c : a.up k (i + 1) = a.base
   · rw [c] at hk; exact a.step_mono hk _
   · rw [UI (La.fair_of hn h k _ c) c]; exact hk
theorem La.fair {a : La} {row : Nat → Bool} (hn : ∀ i, a.nxt i = i + 1) (h : ∀ i, row i = a.step i (row (i + 1))) (hf : ∀ i, ∃ j, i ≤ j ∧ (row j = a.base ∨ a.stop j = true)) (i : Nat) : row i = a.inf i := by
 refine gu (c := a.base) ⟨fun hr => (a.inf_iff i).2 ?_, fun hr => ?_⟩
 · obtain ⟨j, hij, hj⟩ := hf i
   exact La.fair_ex hn h (j - i) i (by rw [show i + (j - i) = j by omega]; exact hj) hr
 · obtain ⟨k, hk⟩ := (a.inf_iff i).1 hr
   exact La.fair_of hn h k i hk
theorem La.inf_met {a : La} (hn : ∀ i, a.nxt i = i + 1) (i : Nat) : ∃ j, i ≤ j ∧ (a.inf j = a.base ∨ a.stop j = true) := by
 by_cases h : a.inf i = a.base
 · exact ⟨i, Nat.le_refl _, .inl h⟩
 · obtain ⟨k, hk⟩ := (a.inf_iff i).1 h
   obtain ⟨j, _, hs, _⟩ := a.up_first k i hk
   have e : ∀ m i, a.itr m i = i + m := fun m => by
    induction m with
    | zero => intro i; rfl
    | succ m ih => intro i; rw [La.itr, ih, hn]; omega
   rw [e] at hs
   exact ⟨i + j, by omega, .inr hs⟩
noncomputable def gj (l : List Fo) (σ : Nat → Nat → Bool) (at_ : Nat) (A B : Nat → Bool) (i : Nat) : Bool :=
 if BJ l at_ = 13 then σ i (UL l at_).toNat
 else if BJ l at_ = 11 then true
 else if BJ l at_ = 12 then false
 else if BJ l at_ = 10 then !A i
 else if BJ l at_ = 8 then A i && B i
 else if BJ l at_ = 9 then A i || B i
 else if BJ l at_ = 14 then A (i + 1)
 else (fp (BJ l at_) A B Nat.succ).inf i
noncomputable def iv (l : List Fo) (σ : Nat → Nat → Bool) : Nat → Nat → Nat → Bool
 | 0, _ => fun _ => false
 | m + 1, i => if i < l.length then gj l σ i (iv l σ m (i + 1)) (if i < second l i then iv l σ m (second l i) else fun _ => false) else fun _ => false
noncomputable def iAt (l : List Fo) (σ : Nat → Nat → Bool) (i : Nat) : Nat → Bool := iv l σ (l.length - i) i
theorem gM (l : List Fo) (σ : Nat → Nat → Bool) : ∀ (m i : Nat), l.length ≤ i + m → iv l σ m i = iAt l σ i := by
 intro m
 induction m using Nat.strongRecOn with
 | _ m ih =>
 intro i h
 unfold iAt
 by_cases hi : i < l.length
 · obtain ⟨m', rfl⟩ : ∃ m', m = m' + 1 := ⟨m - 1, by omega⟩
   obtain ⟨k, hk⟩ : ∃ k, l.length - i = k + 1 := ⟨l.length - i - 1, by omega⟩
   rw [hk]
   have e : ∀ j, i < j → iv l σ m' j = iv l σ k j := fun j hj => by
    rw [ih m' (by omega) j (by omega)]
    by_cases hkm : k < m' + 1
    · rw [ih k hkm j (by omega)]
    · omega
   simp only [iv, if_pos hi]
   rw [e (i + 1) (by omega)]
   by_cases h2 : i < second l i
   · rw [if_pos h2, if_pos h2, e _ h2]
   · rw [if_neg h2, if_neg h2]
 · rw [show l.length - i = 0 by omega]
   cases m with
   | zero => rfl
   | succ m => simp only [iv, if_neg hi]
theorem gy (l : List Fo) (σ : Nat → Nat → Bool) (i : Nat) (hi : i < l.length) : iAt l σ i = gj l σ i (iAt l σ (i + 1)) (if i < second l i then iAt l σ (second l i) else fun _ => false) := by
 rw [← gM l σ (l.length - (i + 1)) (i + 1) (by omega)]
 conv => lhs; rw [iAt, show l.length - i = (l.length - (i + 1)) + 1 by omega, iv, if_pos hi]
 by_cases h2 : i < second l i
 · rw [if_pos h2, if_pos h2, gM l σ _ (second l i) (by omega)]
 · rw [if_neg h2, if_neg h2]
def fX (s N : Nat) : Nat → Nat
 | 0 => 0
 | i + 1 => wnx s N (fX s N i)
theorem fz {s N : Nat} (hs : s < N) : ∀ i, fX s N i < N
 | 0 => by unfold fX; omega
 | i + 1 => by have := fz hs i; rw [fX, wnx]; split <;> omega
theorem gC {s N : Nat} (hs : s < N) : ∀ (d i p : Nat), s ≤ p → p < N → (fX s N i ≤ p → p ≤ fX s N i + d) → (p < fX s N i → N - fX s N i + (p - s) ≤ d) → ∃ j, i ≤ j ∧ fX s N j = p
 | 0, i, p, h1, h2, h3, h4 => by
   have := fz hs i
   by_cases c : fX s N i ≤ p
   · exact ⟨i, Nat.le_refl _, by have := h3 c; omega⟩
   · have := h4 (by omega); omega
 | d + 1, i, p, h1, h2, h3, h4 => by
   have hl := fz hs i
   by_cases c : fX s N i = p
   · exact ⟨i, Nat.le_refl _, c⟩
   have e : fX s N (i + 1) = wnx s N (fX s N i) := rfl
   obtain ⟨j, hj, hm⟩ := gC hs d (i + 1) p h1 h2
    (fun k => by
     rw [e, wnx] at k ⊢
     by_cases c2 : fX s N i + 1 < N
     · rw [if_pos c2] at k ⊢; have := h3 (by omega); omega
     · rw [if_neg c2] at k ⊢; have := h4 (by omega); omega)
    (fun k => by
     rw [e, wnx] at k ⊢
     by_cases c2 : fX s N i + 1 < N
     · rw [if_pos c2] at k ⊢
       have := h4 (by omega); omega
     · rw [if_neg c2] at k ⊢; omega)
   exact ⟨j, by omega, hm⟩
theorem iO {s N p : Nat} (hs : s ≤ p) (hp : p < N) (i : Nat) : ∃ j, i ≤ j ∧ fX s N j = p :=
 gC (by omega) (2 * N) i p hs hp (fun _ => by omega) (fun _ => by omega)
theorem iE {k : Int} (hk : Ar k) (h14 : k ≠ 14) (A B : Nat → Bool) (nx : Nat → Nat) (i : Nat) (a1 s b b1 : Bool) (hA : A i = a1) (hB : k = 15 ∨ k = 16 → B i = s) : (fp k A B nx).step i b = Qr k a1 s b b1 := by
 have : k = 15 ∨ k = 16 ∨ k = 17 ∨ k = 18 := by unfold Ar at hk; omega
 rcases this with rfl | rfl | rfl | rfl
 · rw [ix, hA, hB (.inl rfl)]; simp [Qr]
 · rw [iy, hA, hB (.inr rfl)]; simp [Qr]
 · rw [i5, hA]; simp [Qr]
 · rw [iz, hA]; simp [Qr]
theorem iS {k : Int} (hk : Ar k) (h14 : k ≠ 14) (A B : Nat → Bool) (nx : Nat → Nat) (i : Nat) (a b a1 s : Bool) (hA : A i = a1) (hB : k = 15 ∨ k = 16 → B i = s) (ha : a = (fp k A B nx).step i b) : cW k a a1 s = true ↔ (a = (fp k A B nx).base ∨ (fp k A B nx).stop i = true) := by
 have : k = 15 ∨ k = 16 ∨ k = 17 ∨ k = 18 := by unfold Ar at hk; omega
 rcases this with rfl | rfl | rfl | rfl
 · rw [ix] at ha; subst ha; subst hA; have := hB (.inl rfl); subst this
   show (!(B i || A i && b) || B i) = true ↔ ((B i || A i && b) = false ∨ (B i || !A i) = true)
   cases A i <;> cases B i <;> cases b <;> decide
 · rw [iy] at ha; subst ha; subst hA; have := hB (.inr rfl); subst this
   show ((B i && (A i || b)) || !B i) = true ↔ ((B i && (A i || b)) = true ∨ (!B i || A i) = true)
   cases A i <;> cases B i <;> cases b <;> decide
 · rw [i5] at ha; subst ha; subst hA
   show (!(A i || b) || A i) = true ↔ ((A i || b) = false ∨ A i = true)
   cases A i <;> cases b <;> decide
 · rw [iz] at ha; subst ha; subst hA
   show ((A i && b) || !A i) = true ↔ ((A i && b) = true ∨ (!A i) = true)
   cases A i <;> cases b <;> decide
theorem gk {l : List Fo} {p : Int} (g : NY l p) (x : Nat → List Bool) (c : Nat → Int)
 (hk : ∀ i, kept l (tAt l (x i) (c i)) (tAt l (x (i + 1)) (c (i + 1))))
 (hf : ∀ q, q < l.length → Ar (BJ l q) → ∀ i, ∃ j, i ≤ j ∧ metAt l (tAt l (x j) (c j)) q = true) :
 ∀ (m q : Nat), l.length ≤ q + m → q < l.length → ∀ i, tAt l (x i) (c i) q = iAt l (fun i v => ((x i)[v]?).getD false) q i := by
 intro m
 induction m with
 | zero => intro q h hq; omega
 | succ m ih =>
   intro q h hq i
   have hA : 1 ≤ (partsOf (BJ l q)).1 → ∀ i, tAt l (x i) (c i) (q + 1) = iAt l (fun i v => ((x i)[v]?).getD false) (q + 1) i := fun h1 => ih (q + 1) (by omega) (g.first hq h1)
   have hB : (partsOf (BJ l q)).1 = 2 → ∀ i, tAt l (x i) (c i) (second l q) = iAt l (fun i v => ((x i)[v]?).getD false) (second l q) i := fun h1 => ih (second l q) (by have := g.second hq h1; omega) (g.second hq h1).2
   have hT : ∀ i, _ := fun i => dQ l (x i) (c i) q hq
   have hI := fun i => congrFun (gy l (fun i v => ((x i)[v]?).getD false) q hq) i
   have hK := fun i => hk i q hq
   have hF := hf q hq
   have h2 := g.second hq
   have hkd := g.kind q hq
   rw [← Bq l q hq] at hkd
   unfold JZ at hK
   unfold metAt at hF
   unfold stepT at hT
   unfold gj at hI
   generalize BJ l q = k at hA hB hT hI hK hF h2 hkd
   rcases fx hkd with rfl | rfl | rfl | rfl | rfl | rfl | hk14
   · simp only [hT i, hI i, if_pos (h2 rfl).1]
     simp [hA (by decide) i, hB rfl i]
   · simp only [hT i, hI i, if_pos (h2 rfl).1]
     simp [hA (by decide) i, hB rfl i]
   · simp only [hT i, hI i]
     simp [hA (by decide) i]
   · simp [hT i, hI i]
   · simp [hT i, hI i]
   · simp [hT i, hI i]
   clear hT
   have hah : Ar k := by unfold Ar; omega
   have hp1 : 1 ≤ (partsOf k).1 := by rcases hk14 with rfl | rfl | rfl | rfl | rfl <;> decide
   have hK' := fun i => hK i hah
   by_cases c14 : k = 14
   · subst c14
     rw [hI, hK' i]
     simp [Qr, hA (by decide)]
   rw [hI, if_neg (by omega), if_neg (by omega), if_neg (by omega), if_neg (by omega), if_neg (by omega), if_neg (by omega), if_neg c14]
   have hB' : k = 15 ∨ k = 16 → ∀ i, (if q < second l q then iAt l (fun i v => ((x i)[v]?).getD false) (second l q) else fun _ => false) i = tAt l (x i) (c i) (second l q) := fun hu i => by
    have e2 : (partsOf k).1 = 2 := by rcases hu with rfl | rfl <;> decide
    rw [if_pos (h2 e2).1, hB e2]
   generalize (if q < second l q then iAt l (fun i v => ((x i)[v]?).getD false) (second l q) else fun _ => false) = B at hB'
   have hst : ∀ i, tAt l (x i) (c i) q = (fp k (iAt l (fun i v => ((x i)[v]?).getD false) (q + 1)) B Nat.succ).step i (tAt l (x (i + 1)) (c (i + 1)) q) := fun i => by
    rw [iE hah c14 _ _ _ i (tAt l (x i) (c i) (q + 1)) (tAt l (x i) (c i) (second l q)) _ (tAt l (x (i + 1)) (c (i + 1)) (q + 1)) (hA hp1 i).symm (fun hu => hB' hu i)]
    exact hK' i
   refine La.fair (row := fun i => tAt l (x i) (c i) q) (fun i => by rw [gH]) hst (fun i => ?_) i
   obtain ⟨j, hj, hm⟩ := hF hah i
   exact ⟨j, hj, (iS hah c14 _ _ _ j _ _ _ _ (hA hp1 j).symm (fun hu => hB' hu j) (hst j)).1 hm⟩
theorem gg {l : List Fo} {p : Int} (g : NY l p) (x : Nat → List Bool) (c : Nat → Int)
 (hk : ∀ i, kept l (tAt l (x i) (c i)) (tAt l (x (i + 1)) (c (i + 1))))
 (hf : ∀ q, q < l.length → Ar (BJ l q) → ∀ i, ∃ j, i ≤ j ∧ metAt l (tAt l (x j) (c j)) q = true) :
 tAt l (x 0) (c 0) 0 = iAt l (fun i v => ((x i)[v]?).getD false) 0 0 :=
 gk g x c hk hf l.length 0 (by omega) g.pos 0
theorem fh (l : List Fo) (T : Nat → Nat → Bool) (i : Nat) : ∀ (n q : Nat), q < n → Ar (BJ l q) → e9 (fU l T i n) (CG l q) = T q i
 | 0, q, h, _ => absurd h (Nat.not_lt_zero q)
 | n + 1, q, h, ha => by
   have hb := fW l T i n
   have hp : (0 : Int) < 2 ^ CG l n := by exact_mod_cast Nat.pow_pos (by decide)
   by_cases e : q = n
   · subst e
     simp only [fU]
     unfold e9
     by_cases c2 : T q i = true
     · rw [if_pos ⟨ha, c2⟩, c2, decide_eq_true_iff, Int.add_ediv_of_dvd_right (Int.dvd_refl _), Int.ediv_eq_zero_of_lt hb.1 hb.2, Int.ediv_self (by omega)]; rfl
     · rw [if_neg (fun h => c2 h.2), Int.add_zero, Int.ediv_eq_zero_of_lt hb.1 hb.2, Bool.not_eq_true] at *
       rw [c2]; decide
   · have ih := fh l T i n q (by omega) ha
     have hr : CG l q + 1 ≤ CG l n := by
      have h1 := Jo l (n - (q + 1)) (q + 1)
      rw [show q + 1 + (n - (q + 1)) = n by omega] at h1
      simp only [CG, if_pos ha] at h1; omega
     rw [← ih]
     simp only [fU]
     by_cases c : Ar (BJ l n) ∧ T n i = true
     · rw [if_pos c]
       unfold e9
       obtain ⟨d, hd⟩ : ∃ d, CG l n = CG l q + 1 + d := ⟨CG l n - (CG l q + 1), by omega⟩
       have e2 : (2 : Int) ^ CG l n = 2 ^ CG l q * (2 * 2 ^ d) := by rw [hd, Int.pow_add, Int.pow_succ]; ac_rfl
       have hq0 : (2 : Int) ^ CG l q ≠ 0 := by
        have : (0 : Int) < 2 ^ CG l q := by exact_mod_cast Nat.pow_pos (by decide)
        omega
       rw [e2, Int.add_mul_ediv_left _ _ hq0, Int.add_mul_emod_self_left]
     · rw [if_neg c, Int.add_zero]
noncomputable def fY (l : List Fo) (σ : Nat → Nat → Bool) (i : Nat) : Int := fU l (iAt l σ) i l.length
theorem gT (l : List Fo) (σ : Nat → Nat → Bool) (i : Nat) : 0 ≤ fY l σ i ∧ fY l σ i < 2 ^ CG l l.length := fW l _ i _
theorem fT {l : List Fo} {p : Int} (g : NY l p) (σ : Nat → Nat → Bool) (x : List Bool) (i : Nat) (hx : ∀ v, (x[v]?).getD false = σ i v) :
 ∀ (m q : Nat), l.length ≤ q + m → q < l.length → tAt l x (fY l σ i) q = iAt l σ q i := by
 intro m
 induction m with
 | zero => intro q h hq; omega
 | succ m ih =>
   intro q h hq
   have hA : 1 ≤ (partsOf (BJ l q)).1 → tAt l x (fY l σ i) (q + 1) = iAt l σ (q + 1) i := fun h1 => ih (q + 1) (by omega) (g.first hq h1)
   have hB : (partsOf (BJ l q)).1 = 2 → tAt l x (fY l σ i) (second l q) = iAt l σ (second l q) i := fun h1 => ih (second l q) (by have := g.second hq h1; omega) (g.second hq h1).2
   have hT := dQ l x (fY l σ i) q hq
   have hI := congrFun (gy l σ q hq) i
   have hR : Ar (BJ l q) → _ := fun ha => fh l (iAt l σ) i l.length q hq ha
   have h2 := g.second hq
   have hkd := g.kind q hq
   rw [← Bq l q hq] at hkd
   unfold stepT at hT
   unfold gj at hI
   generalize BJ l q = k at hA hB hT hI hR h2 hkd
   rcases fx hkd with rfl | rfl | rfl | rfl | rfl | rfl | hk14
   · simp only [hT, hI, if_pos (h2 rfl).1]
     simp [hA (by decide), hB rfl]
   · simp only [hT, hI, if_pos (h2 rfl).1]
     simp [hA (by decide), hB rfl]
   · simp only [hT, hI]
     simp [hA (by decide)]
   · simp [hT, hI]
   · simp [hT, hI]
   · simp [hT, hI, hx]
   rw [hT, if_neg (by omega), if_neg (by omega), if_neg (by omega), if_neg (by omega), if_neg (by omega), if_neg (by omega)]
   exact hR (by unfold Ar; omega)
theorem gN {l : List Fo} {p : Int} (g : NY l p) (σ : Nat → Nat → Bool) {q : Nat} (hq : q < l.length) (ha : Ar (BJ l q)) (i : Nat) :
 iAt l σ q i = Qr (BJ l q) (iAt l σ (q + 1) i) (iAt l σ (second l q) i) (iAt l σ q (i + 1)) (iAt l σ (q + 1) (i + 1)) ∧ ∃ j, i ≤ j ∧ cW (BJ l q) (iAt l σ q j) (iAt l σ (q + 1) j) (iAt l σ (second l q) j) = true := by
 have h2 := g.second hq
 have hI := fun i => congrFun (gy l σ q hq) i
 unfold gj at hI
 generalize BJ l q = k at ha hI h2
 have ha' := ha
 unfold Ar at ha'
 replace hI := fun i => (hI i).trans (by rw [if_neg (by omega), if_neg (by omega), if_neg (by omega), if_neg (by omega), if_neg (by omega), if_neg (by omega)])
 by_cases c14 : k = 14
 · subst c14
   exact ⟨by rw [hI]; simp [Qr], i, Nat.le_refl _, rfl⟩
 replace hI := fun i => (hI i).trans (if_neg c14)
 have hB' : k = 15 ∨ k = 16 → ∀ i, (if q < second l q then iAt l σ (second l q) else fun _ => false) i = iAt l σ (second l q) i := fun hu i => by
  have e2 : (partsOf k).1 = 2 := by rcases hu with rfl | rfl <;> decide
  rw [if_pos (h2 e2).1]
 generalize (if q < second l q then iAt l σ (second l q) else fun _ => false) = B at hB' hI
 have hs : ∀ i, iAt l σ q i = (fp k (iAt l σ (q + 1)) B Nat.succ).step i (iAt l σ q (i + 1)) := fun i => by
  rw [hI i, La.inf_step, gH, hI (i + 1)]
 refine ⟨(hs i).trans (iE ha c14 _ _ _ i _ _ _ _ rfl (fun hu => hB' hu i)), ?_⟩
 obtain ⟨j, hj, hm⟩ := La.inf_met (a := fp k (iAt l σ (q + 1)) B Nat.succ) (fun i => by rw [gH]) i
 refine ⟨j, hj, (iS ha c14 _ _ _ j _ _ _ _ rfl (fun hu => hB' hu j) (hs j)).2 ?_⟩
 rw [hI j]; exact hm
theorem ga {k : Int} (a a1 u v : Bool) (hu : k = 15 ∨ k = 16 → u = v) : cW k a a1 u = cW k a a1 v := by
 by_cases h : k = 15 ∨ k = 16
 · rw [hu h]
 · unfold cW
   split
   · rfl
   split
   · rfl
   rw [if_neg (by omega), if_neg (by omega), if_neg (by omega), if_neg (by omega)]
theorem KA {k : Int} (ha : Ar k) : 1 ≤ (partsOf k).1 ∧ (k = 15 ∨ k = 16 → (partsOf k).1 = 2) := by
 have : k = 14 ∨ k = 15 ∨ k = 16 ∨ k = 17 ∨ k = 18 := by unfold Ar at ha; omega
 rcases this with rfl | rfl | rfl | rfl | rfl <;> exact ⟨by decide, fun h => by first | decide | omega⟩
theorem gd {l : List Fo} {p : Int} (g : NY l p) (σ : Nat → Nat → Bool) (x y : List Bool) (i : Nat) (hx : ∀ v, (x[v]?).getD false = σ i v) (hy : ∀ v, (y[v]?).getD false = σ (i + 1) v) :
 kept l (tAt l x (fY l σ i)) (tAt l y (fY l σ (i + 1))) := fun q hq ha => by
 have e := (gN g σ hq ha i).1
 have hp := KA ha
 have h1 := g.first hq hp.1
 rw [fT g σ x i hx l.length q (by omega) hq, fT g σ x i hx l.length (q + 1) (by omega) h1, fT g σ y (i + 1) hy l.length q (by omega) hq, fT g σ y (i + 1) hy l.length (q + 1) (by omega) h1, e]
 refine Rq _ _ _ _ _ ha fun hu => ?_
 exact (fT g σ x i hx l.length _ (by have := g.second hq (hp.2 hu); omega) (g.second hq (hp.2 hu)).2).symm
theorem gw {l : List Fo} {p : Int} (g : NY l p) (σ : Nat → Nat → Bool) (x : Nat → List Bool) (hx : ∀ i v, ((x i)[v]?).getD false = σ i v) {q : Nat} (hq : q < l.length) (ha : Ar (BJ l q)) (i : Nat) :
 ∃ j, i ≤ j ∧ metAt l (tAt l (x j) (fY l σ j)) q = true := by
 obtain ⟨j, hj, hm⟩ := (gN g σ hq ha i).2
 have hp := KA ha
 refine ⟨j, hj, ?_⟩
 unfold metAt
 rw [fT g σ _ j (hx j) l.length q (by omega) hq, fT g σ _ j (hx j) l.length (q + 1) (by omega) (g.first hq hp.1), ← hm]
 exact ga _ _ _ _ fun hu => fT g σ _ j (hx j) l.length _ (by have := g.second hq (hp.2 hu); omega) (g.second hq (hp.2 hu)).2
theorem Rch.way {nx : Nat → List Nat} {π : Nat → Nat} (hs : ∀ i, π (i + 1) ∈ nx (π i)) (i : Nat) : ∀ d, Rch nx (π i) (π (i + d))
 | 0 => .refl _
 | d + 1 => .step (Rch.way hs i d) (hs (i + d))
theorem gR {π : Nat → Nat} : ∀ (n : Nat), (∀ i, ∃ j, i ≤ j ∧ π j < n) → ∃ v, v < n ∧ ∀ i, ∃ j, i ≤ j ∧ π j = v
 | 0, h => by obtain ⟨j, _, hj⟩ := h 0; omega
 | n + 1, h => by
   by_cases c : ∀ i, ∃ j, i ≤ j ∧ π j = n
   · exact ⟨n, by omega, c⟩
   · obtain ⟨b, hb⟩ := Classical.not_forall.1 c
     obtain ⟨v, h1, h2⟩ := gR (π := π) n fun i => by
      obtain ⟨j, hj, hl⟩ := h (i + b)
      refine ⟨j, by omega, ?_⟩
      have : π j ≠ n := fun e => hb ⟨j, Nat.le_trans (Nat.le_add_left b i) hj, e⟩
      omega
     exact ⟨v, by omega, h2⟩
theorem iH {g : Gn} (hok : g.ok) {π : Nat → Nat} (h0 : π 0 < g.init) (hs : ∀ i, π (i + 1) ∈ g.nx (π i)) (hf : ∀ s, s < g.many → ∀ i, ∃ j, i ≤ j ∧ (ni g.sets (π j)).testBit s = true) : ∃ h, h < g.spots.length ∧ M0 g h := by
 have hi := hok.init
 have hlt : ∀ i, π i < g.spots.length := fun i => by
  cases i with
  | zero => omega
  | succ i => exact g.nx_lt hok _ _ (hs i)
 obtain ⟨v, hv, hag⟩ := gR (π := π) g.spots.length fun i => ⟨i, Nat.le_refl _, hlt i⟩
 obtain ⟨i0, _, e0⟩ := hag 0
 have hpart : ∀ j, i0 ≤ j → ni (EP g) (π j) = ni (EP g) v := fun j hj => by
  rw [fV g (hlt j) hv]
  obtain ⟨j', hj', e'⟩ := hag j
  have h1 := Rch.way hs i0 (j - i0)
  have h2 := Rch.way hs j (j' - j)
  rw [show i0 + (j - i0) = j by omega, e0] at h1
  rw [show j + (j' - j) = j' by omega, e'] at h2
  exact ⟨h2, h1⟩
 have hlen := JG g
 have hh : ni (EP g) v < g.spots.length := by rw [MJ _ _ (by omega)]; exact Za g v (by omega)
 obtain ⟨m, hm, r1, r2, _⟩ := KM g.nx v
 have hmv : (ni (EP g) v : Int) = m := by rw [gD g hv, hm]
 have hmv' : ni (EP g) v = m := by exact_mod_cast hmv
 refine ⟨ni (EP g) v, hh, ⟨π 0, h0, ?_⟩, ?_, ⟨π i0, hlt _, hpart _ (Nat.le_refl _), π (i0 + 1), hs i0, hpart _ (by omega)⟩, fun s hs' => ?_⟩
 · have h1 := Rch.way hs 0 i0
   rw [Nat.zero_add, e0] at h1
   rw [hmv']; exact h1.trans r1
 · rw [fV g hh hv, hmv']
   exact ⟨r2, r1⟩
 · obtain ⟨j, hj, hb⟩ := hf s hs' i0
   exact ⟨π j, hlt j, hpart j hj, hb⟩
theorem FitP.way {g : Gn} {stem loop : List Nat} (w : FitP g stem loop) (i : Nat) :
 ni (stem ++ loop) (fX stem.length (stem ++ loop).length (i + 1)) ∈ g.nx (ni (stem ++ loop) (fX stem.length (stem ++ loop).length i)) := by
 have hlp := List.length_pos_iff.2 w.ne
 have hN : (stem ++ loop).length = stem.length + loop.length := List.length_append
 have hl := fz (s := stem.length) (N := (stem ++ loop).length) (by omega) i
 obtain ⟨a, t, e⟩ : ∃ a t, loop = a :: t := by
  cases hlp' : loop with
  | nil => rw [hlp'] at hlp; simp at hlp
  | cons a t => exact ⟨a, t, rfl⟩
 have hc := w.chain a (by rw [e]; rfl)
 rw [fX]
 generalize fX stem.length (stem ++ loop).length i = m at hl
 have h1 := hc.at m (by rw [List.length_append]; simp; omega)
 rw [MJ _ _ hl]
 rw [List.getElem_append_left (by omega)] at h1
 by_cases c : m + 1 < (stem ++ loop).length
 · rw [wnx, if_pos c, MJ _ _ c]
   rw [List.getElem_append_left c] at h1
   exact h1
 · rw [wnx, if_neg c, MJ _ _ (by omega)]
   have e3 : (stem ++ loop ++ [a])[m + 1]'(by rw [List.length_append]; simp; omega) = a := by rw [List.getElem_append_right (by omega)]; simp
   rw [e3] at h1
   have e2 : (stem ++ loop)[stem.length]'(by omega) = a := by rw [List.getElem_append_right (Nat.le_refl _)]; simp [e]
   rw [e2]
   exact h1
theorem FitP.meets {g : Gn} {stem loop : List Nat} (w : FitP g stem loop) (s : Nat) (hs : s < g.many) (i : Nat) : ∃ j, i ≤ j ∧ (ni g.sets (ni (stem ++ loop) (fX stem.length (stem ++ loop).length j))).testBit s = true := by
 obtain ⟨a, ha, hb⟩ := w.bits s hs
 obtain ⟨k, hk, rfl⟩ := List.getElem_of_mem ha
 have hN : (stem ++ loop).length = stem.length + loop.length := List.length_append
 obtain ⟨j, hj, e⟩ := iO (s := stem.length) (N := (stem ++ loop).length) (p := stem.length + k) (by omega) (by omega) i
 refine ⟨j, hj, ?_⟩
 rw [e, MJ (stem ++ loop) _ (by omega), List.getElem_append_right (by omega)]
 simpa using hb
theorem FitP.start {g : Gn} {stem loop : List Nat} (w : FitP g stem loop) : ni (stem ++ loop) 0 < g.init := by
 have hlp := List.length_pos_iff.2 w.ne
 have hN : (stem ++ loop).length = stem.length + loop.length := List.length_append
 rw [MJ _ _ (by omega)]
 exact w.first _ (by rw [List.head?_eq_getElem?, List.getElem?_eq_getElem (by omega)])
theorem gF {nx : Nat → List Nat} {n : Nat} {fr : List Nat} {ins wnt : Nat → Bool} {v : Nat} (hn : ∀ i, ∀ k ∈ nx i, k < n) (hfr : ∀ k ∈ fr, k < n) (h : bA nx fr ins v) : wnt v = true → ∃ l, dx nx n fr ins wnt l := by
 have key : ∃ l, l.getLast? = some v ∧ (∀ a, l.head? = some a → a ∈ fr) ∧ IV nx ins l ∧ ∀ a ∈ l, a < n := by
  induction h with
  | @base k h => exact ⟨[k], rfl, fun a ha => (by cases ha; exact h), trivial, fun a ha => (by rw [List.mem_singleton.1 ha]; exact hfr k h)⟩
  | @step j k _ e hi ih =>
    obtain ⟨l, h1, h2, h3, h4⟩ := ih
    have hne : l ≠ [] := fun e => by rw [e] at h1; cases h1
    refine ⟨l ++ [k], by simp, fun a ha => h2 a ?_, h3.app h1 ⟨⟨e, hi⟩, trivial⟩, fun a ha => ?_⟩
    · cases l with
      | nil => exact absurd rfl hne
      | cons x l => simpa using ha
    · rcases List.mem_append.1 ha with ha | ha
      · exact h4 a ha
      · rw [List.mem_singleton.1 ha]; exact hn _ _ e
 intro hw
 obtain ⟨l, h1, h2, h3, h4⟩ := key
 exact ⟨l, fun e => (by rw [e] at h1; cases h1), h2, h3, fun a ha => (by rw [h1] at ha; cases ha; exact hw), h4⟩
theorem gv {g : Gn} (hok : g.ok) {h : Nat} (hh : h < g.spots.length) (hg : M0 g h) : ∃ stem loop, FitP g stem loop := by
 have hnx := fun i => g.nx_lt hok i
 have key : ∀ b, b ≤ g.many → ∃ l met, LasI g h b l met := by
  intro b
  induction b with
  | zero => intro _; exact ⟨_, _, LasI.start hh hg.2⟩
  | succ b ih =>
    intro hb
    obtain ⟨l, met, w⟩ := ih (by omega)
    obtain ⟨a, ha⟩ : ∃ a, l.getLast? = some a := ⟨_, List.getLast?_eq_some_getLast w.ne⟩
    obtain ⟨h1, h2⟩ := w.ins a (List.mem_of_getLast? ha)
    obtain ⟨v, h3, h4⟩ := gO hok hg.2 h1 h2 (show b < g.many by omega)
    obtain ⟨l2, h5⟩ := gF (wnt := fun k => (ni g.sets k).testBit b) hnx (fun k hk => by rw [List.mem_singleton.1 hk]; exact h1) h3 h4
    obtain ⟨t, rfl⟩ := h5.cons
    exact ⟨_, 0, w.join (met' := 0) ha h5 fun s hs => by simp at hs⟩
 obtain ⟨l, met, w⟩ := key g.many (Nat.le_refl _)
 obtain ⟨a, ha⟩ : ∃ a, l.getLast? = some a := ⟨_, List.getLast?_eq_some_getLast w.ne⟩
 obtain ⟨h1, h2⟩ := w.ins a (List.mem_of_getLast? ha)
 obtain ⟨k, hk, hki⟩ := gJ hok hg.2 h1 h2
 have hkn := hnx _ _ hk
 have hkh : ni (EP g) k = h := of_decide_eq_true hki
 have hin := hok.init
 obtain ⟨ws, hs⟩ := gF (n := g.spots.length) (wnt := fun k => decide (k = h)) hnx (fun k hk => by have := List.mem_range.1 hk; omega) (gA hg.1) (decide_eq_true rfl)
 obtain ⟨w2, hv⟩ := gF (n := g.spots.length) (wnt := fun k => decide (k = h)) hnx (fun j hj => by rw [List.mem_singleton.1 hj]; exact hkn) (gI hok hh hg.2 hkn hkh) (decide_eq_true rfl)
 exact ⟨_, _, w.fits ha hk hki hs hv⟩
end Go.Sp
