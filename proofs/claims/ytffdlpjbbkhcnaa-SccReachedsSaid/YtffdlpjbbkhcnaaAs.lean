/-
  PLAIN, NO PROGRAM: slices: append, literals, cuts, and what is handed on as data (over Ae).
-/
import Derived.Test.YtffdlpjbbkhcnaaAe
namespace Go.Av
open Go

theorem D.av_rel' {w : World} {I : Nat → Prop} {x : D} {v : Value} (h : AV.rel w I x.av v) : Rel w I x v := by
  cases x with
  | i k n => cases h; exact .i k n
  | b x => cases h; exact .b x
  | s x => cases h; exact .s x
  | l sz eb rows => exact h

theorem D.av_flat (x : D) : x.av.flat = true := by cases x <;> rfl

theorem rels_of_get {w : World} {I : Nat → Prop} : ∀ {xs : List AV} {vs : List Value}, xs.length = vs.length → (∀ (j : Nat) (x : AV) (v : Value), xs[j]? = some x → vs[j]? = some v → AV.rel w I x v) → AV.rels w I xs vs
  | [], [], _, _ => trivial
  | x :: xs, v :: vs, hl, h => ⟨h 0 x v rfl rfl, rels_of_get (by simpa using hl) fun j y u h1 h2 => h (j + 1) y u (by simpa using h1) (by simpa using h2)⟩

theorem flatten_get {α : Type} {sz : Nat} (h0 : 0 < sz) : ∀ (rows : List (List α)), (∀ r ∈ rows, r.length = sz) → ∀ q, rows.flatten[q]? = (rows[q / sz]?).bind (·[q % sz]?)
  | [], _, q => by simp
  | r :: rows, h, q => by
    have hr : r.length = sz := h r (by simp)
    have ih := flatten_get h0 rows (fun r hr => h r (by simp [hr]))
    rw [List.flatten_cons]
    by_cases hq : q < sz
    · rw [List.getElem?_append_left (by omega), Nat.div_eq_of_lt hq, Nat.mod_eq_of_lt hq]; rfl
    · rw [List.getElem?_append_right (by omega), hr, ih]
      have h1 : q = (q - sz) + sz := by omega
      have h2 : q / sz = (q - sz) / sz + 1 := by conv => lhs; rw [h1]; rw [Nat.add_div_right _ h0]
      have h3 : q % sz = (q - sz) % sz := by conv => lhs; rw [h1]; rw [Nat.add_mod_right]
      rw [h2, h3]; rfl

theorem flatten_length {α : Type} {sz : Nat} : ∀ (rows : List (List α)), (∀ r ∈ rows, r.length = sz) → rows.flatten.length = rows.length * sz
  | [], _ => by simp
  | r :: rows, h => by
    rw [List.flatten_cons, List.length_append, flatten_length rows (fun r hr => h r (by simp [hr])), h r (by simp), List.length_cons, Nat.succ_mul, Nat.add_comm]

/-- The cells that a slice of data has. -/
theorem Rel.cells_of {w : World} {I : Nat → Prop} {sz eb : Nat} {rows : List (List D)} {v : Value} (h0 : 0 < sz) (h : Rel w I (.l sz eb rows) v) :
    (v = .slice none 0 0 ∧ rows = []) ∨ ∃ ad cap us, v = .slice (some ad) rows.length cap ∧ us.length = rows.length * sz ∧ (∀ (j : Nat) (u : Value), us[j]? = some u → w.cell? (ad.add j) = some u) ∧ (∀ u ∈ us, u.oneCell' = true) ∧ AV.rels w I (rows.flatten.map D.av) us := by
  cases h with
  | nil => exact .inl ⟨rfl, rfl⟩
  | emp _ _ ad => exact .inr ⟨ad, 0, [], rfl, by simp, by simp, by simp, trivial⟩
  | l _ _ _ ad cap css hI hcap hm hb hsz hc hr =>
    refine .inr ⟨ad, cap, (List.range (rows.length * sz)).map fun q => css (q / sz) (q % sz), rfl, by simp, ?_, ?_, ?_⟩
    all_goals
      have key : ∀ q, q < rows.length * sz → ∃ r x, rows[q / sz]? = some r ∧ r[q % sz]? = some x := fun q hq => by
        have h1 : q / sz < rows.length := (Nat.div_lt_iff_lt_mul h0).2 hq
        have h2 : q % sz < (rows[q / sz]).length := by rw [hsz _ (List.getElem_mem h1)]; exact Nat.mod_lt _ h0
        exact ⟨rows[q / sz], (rows[q / sz])[q % sz], List.getElem?_eq_getElem h1, List.getElem?_eq_getElem h2⟩
    · intro q u hu
      by_cases hq : q < rows.length * sz
      · rw [List.getElem?_map, List.getElem?_range hq] at hu
        simp at hu
        subst hu
        obtain ⟨r, x, h1, h2⟩ := key q hq
        have := hc _ _ r x h1 h2
        rwa [Nat.mul_comm, Nat.div_add_mod] at this
      · rw [List.getElem?_eq_none (by simp; omega)] at hu; cases hu
    · intro u hu
      obtain ⟨q, hq, rfl⟩ := List.mem_map.1 hu
      obtain ⟨r, x, h1, h2⟩ := key q (List.mem_range.1 hq)
      exact (hr _ _ r x h1 h2).oneCell
    · refine rels_of_get (by rw [List.length_map, flatten_length rows hsz]; simp) fun j x v h1 h2 => ?_
      rw [List.getElem?_map] at h1 h2
      have hj : j < rows.length * sz := by
        by_cases hq : j < rows.length * sz
        · exact hq
        · rw [List.getElem?_eq_none (by simp; omega)] at h2; cases h2
      rw [List.getElem?_range hj] at h2
      simp at h2
      subst h2
      obtain ⟨r, y, h3, h4⟩ := key j hj
      rw [flatten_get h0 rows hsz, h3] at h1
      simp [h4] at h1
      subst h1
      exact D.av_rel (hr _ _ r y h3 h4)

section
variable {k : Kx} {Q : Exit → Env → H → Prop} {ρ ρ' : Env} {h h' : H} {ops : Array Oper} {l : List Oper} {dst : Option Tmp} {ty : TypeId} {pos : String} {after : Array Edge} {g : Option (Nat × Bool)}

/-- An owned row after an append: the entry told anew (its block perhaps another one). -/
theorem Ok.grown {c : Cx} {I : Nat → Prop} {h1 h2 : H} {v v' : Value} {n m : Nat} {T : TypeId} {sz : Nat} {xs ys : List AV} {us : List Value} {w w' : World} (k : Ok c I (h1 ++ .row v n T sz xs :: h2) w)
    (hg : w.grownBy w' v.ownBlock) (hb : v'.ownBlock = v.ownBlock ∨ v'.ownBlock = some w.heap.size) (ho : ∃ os, w'.ownsRow 0 T sz v' m (os ++ us) ∧ w.ownsRow 0 T sz v n os ∧ AV.rels w I xs os) (hy : AV.rels w I ys us) :
    Ok c I (h1 ++ .row v' m T sz (xs ++ ys) :: h2) w' ∧ ∀ x, I x → w'.heap[x]? = w.heap[x]? := by
  obtain ⟨os, ho1, ho2, ho3⟩ := ho
  have hbv : ∀ x, v.ownBlock = some x → x ∈ blks (h1 ++ .row v n T sz xs :: h2) := fun x hx => by
    unfold blks; exact List.mem_filterMap.2 ⟨.row v n T sz xs, by simp, hx⟩
  have hI : ∀ x, I x → w'.heap[x]? = w.heap[x]? := fun x hx => hg.block x (k.imm x hx).1 fun e => (k.imm x hx).2 (hbv x e.symm)
  have hnd := k.nd
  have hsplit : ∀ (e : Ent), blks (h1 ++ e :: h2) = blks h1 ++ (e.blk.toList ++ blks h2) := fun e => by
    simp only [blks, List.filterMap_append, List.filterMap_cons]
    cases e.blk <;> rfl
  rw [hsplit] at hnd
  have hn3 := List.nodup_append.1 hnd
  have hn4 := List.nodup_append.1 hn3.2.1
  have hlt : ∀ e ∈ h1 ++ .row v n T sz xs :: h2, ∀ x, e.blk = some x → x < w.heap.size := fun e he x hx => Ent.blk_lt (k.ent e he) hx
  have hother : ∀ e, (e ∈ h1 ∨ e ∈ h2) → ∀ x, e.blk = some x → w'.heap[x]? = w.heap[x]? := by
    intro e he x hx
    refine hg.block x (hlt e (by rcases he with h | h <;> simp [h]) x hx) fun e1 => ?_
    rcases he with h | h
    · exact hn3.2.2 x (List.mem_filterMap.2 ⟨e, h, hx⟩) x (by simp [Ent.blk, ← e1]) rfl
    · exact hn4.2.2 x (by simp [Ent.blk, ← e1]) x (List.mem_filterMap.2 ⟨e, h, hx⟩) rfl
  have hnew : ∀ x, v'.ownBlock = some x → x ∉ blks h1 ∧ x ∉ blks h2 ∧ ¬ I x ∧ (x ∈ c.E ∨ c.W.heap.size ≤ x) := by
    intro x hx
    rcases hb with hb | hb
    · rw [hb] at hx
      refine ⟨fun hm => hn3.2.2 x hm x (by simp [Ent.blk, hx]) rfl, fun hm => hn4.2.2 x (by simp [Ent.blk, hx]) x hm rfl, fun hI => (k.imm x hI).2 (hbv x hx), k.new x (hbv x hx)⟩
    · rw [hb] at hx
      cases hx
      refine ⟨fun hm => ?_, fun hm => ?_, fun hI => absurd (k.imm _ hI).1 (Nat.lt_irrefl _), .inr k.size⟩
      · obtain ⟨e, he, hx⟩ := List.mem_filterMap.1 hm
        exact absurd (hlt e (by simp [he]) _ hx) (Nat.lt_irrefl _)
      · obtain ⟨e, he, hx⟩ := List.mem_filterMap.1 hm
        exact absurd (hlt e (by simp [he]) _ hx) (Nat.lt_irrefl _)
  have hmono : ∀ {as : List AV} {bs : List Value}, AV.rels w I as bs → AV.rels w' I as bs := fun h => AV.rels_mono hI (fun _ h => h) h
  refine ⟨?_, hI⟩
  exact
  { ent := fun e he => by
      rcases List.mem_append.1 he with he | he
      · exact Ent.rel_mono hI (fun _ h => h) (hother e (.inl he)) (k.ent e (List.mem_append.2 (.inl he)))
      · rcases List.mem_cons.1 he with rfl | he
        · exact ⟨_, ho1, AV.rels_append (hmono ho3) (hmono hy)⟩
        · exact Ent.rel_mono hI (fun _ h => h) (hother e (.inr he)) (k.ent e (List.mem_append.2 (.inr (List.mem_cons_of_mem _ he))))
    nd := by
      rw [hsplit]
      refine List.nodup_append.2 ⟨hn3.1, List.nodup_append.2 ⟨by cases (Ent.row v' m T sz (xs ++ ys)).blk <;> simp, hn4.2.1, ?_⟩, ?_⟩
      · intro a ha b hb e1
        subst e1
        have hx : v'.ownBlock = some a := by simpa [Ent.blk, Option.mem_toList] using ha
        exact (hnew a hx).2.1 hb
      · intro a ha b hb e1
        subst e1
        rcases List.mem_append.1 hb with hb | hb
        · have hx : v'.ownBlock = some a := by simpa [Ent.blk, Option.mem_toList] using hb
          exact (hnew a hx).1 ha
        · exact hn3.2.2 a ha a (List.mem_append.2 (.inr hb)) rfl
    imm := fun x hx => by
      refine ⟨Nat.lt_of_lt_of_le (k.imm x hx).1 hg.size, fun hm => ?_⟩
      rw [hsplit] at hm
      rcases List.mem_append.1 hm with hm | hm
      · exact (k.imm x hx).2 (by rw [hsplit]; exact List.mem_append.2 (.inl hm))
      · rcases List.mem_append.1 hm with hm | hm
        · have hx' : v'.ownBlock = some x := by simpa [Ent.blk, Option.mem_toList] using hm
          exact (hnew x hx').2.2.1 hx
        · exact (k.imm x hx).2 (by rw [hsplit]; exact List.mem_append.2 (.inr (List.mem_append.2 (.inr hm))))
    new := fun x hm => by
      rw [hsplit] at hm
      rcases List.mem_append.1 hm with hm | hm
      · exact k.new x (by rw [hsplit]; exact List.mem_append.2 (.inl hm))
      · rcases List.mem_append.1 hm with hm | hm
        · have hx' : v'.ownBlock = some x := by simpa [Ent.blk, Option.mem_toList] using hm
          exact (hnew x hx').2.2.2
        · exact k.new x (by rw [hsplit]; exact List.mem_append.2 (.inr (List.mem_append.2 (.inr hm))))
    inew := k.inew
    sup := k.sup
    os := hg.os.trans k.os
    tape := hg.tape.trans k.tape
    output := hg.output.trans k.output
    size := Nat.le_trans k.size hg.size
    keep := fun x hx hE => by
      refine (hg.block x (Nat.lt_of_lt_of_le hx k.size) fun e => ?_).trans (k.keep x hx hE)
      rcases k.new x (hbv x e.symm) with h | h
      · exact hE h
      · exact absurd hx (Nat.not_lt.2 h)
    glob := fun q hq => (k.glob q hq).mono hI fun _ h => h }

/-- append(row, data...). -/
theorem JL_append {T E : TypeId} {x y : Operand} {z : Value} {sz eb eb' n : Nat} {v : Value} {xs : List AV} {rows : List (List D)} {h1 h2 : H} (hT : k.P.underlying T = some (.slice E)) (he : El k.P E z sz eb) (hz : z.cells.size = sz) (h0 : 0 < sz)
    (hx : ev ρ x = .val v) (hy : ev ρ y = .d (.l sz eb' rows)) (hh : h = h1 ++ .row v n E sz xs :: h2) (hb : (n + rows.length) * eb ≤ 140737488355328) (hm : n + rows.length ≤ 140737488355328) (hd : ∀ t, dst = some t → t < k.n)
    (hj : ∀ v', JL k ops l Q (put ρ dst (.val v')) (h1 ++ .row v' (n + rows.length) E sz (xs ++ rows.flatten.map D.av) :: h2)) :
    JL k ops (⟨dst, .call { callee := .builtin .append, args := #[x, y], argTypes := #[T, T] }, ty, pos, after, none⟩ :: l) Q ρ h := by
  subst hh
  obtain ⟨i, hi, hz0, hz1, hz2⟩ := he.get
  refine JL_eff rfl hd fun I a w k1 k2 => ?_
  have e1 := rel_val (k2.ev x) hx
  have e2 := rel_as (k2.ev y) hy
  obtain ⟨os, ho, hos⟩ := k1.ent (.row v n E sz xs) (by simp)
  have hml : n + rows.length ≤ maxLen := by simp only [maxLen]; omega
  have fin : ∀ (v' : Value) (w' : World) (us : List Value), (execOp a.eval ⟨dst, .call { callee := .builtin .append, args := #[x, y], argTypes := #[T, T] }, ty, pos, after, none⟩).run k.P w = .ok (.value v') w' →
      w'.ownsRow 0 E sz v' (n + rows.length) (os ++ us) → w.grownBy w' v.ownBlock → (v'.ownBlock = v.ownBlock ∨ v'.ownBlock = some w.heap.size) → AV.rels w I (rows.flatten.map D.av) us →
      ∃ u w' I' r h', (execOp a.eval ⟨dst, .call { callee := .builtin .append, args := #[x, y], argTypes := #[T, T] }, ty, pos, after, none⟩).run k.P w = .ok (.value u) w' ∧ Ok k.c I' h' w' ∧ SF k.n w' I' ρ a ∧ AV.rel w' I' r u ∧ JL k ops l Q (put ρ dst r) h' := by
    intro v' w' us hrun how hgr hbl hus
    obtain ⟨m1, m2⟩ := k1.grown hgr hbl ⟨os, how, ho, hos⟩ hus
    exact ⟨v', w', I, .val v', _, hrun, m1, k2.mono m2 (fun _ h => h), rfl, hj v'⟩
  rcases Rel.cells_of h0 e2 with ⟨e3, rfl⟩ | ⟨ad, cap, us, e3, hl, hc, h1c, hrel⟩
  · have hrun := run_append_owned_none (P := k.P) (w := w) 0 T ty E i sz hT hi v n os ho
    refine fin v w [] ?_ (by simpa using ho) ⟨rfl, rfl, rfl, Nat.le_refl _, fun _ _ _ => rfl⟩ (.inl rfl) trivial
    simp [execOp, resolve, invoke, builtin, e1, e3, hrun]
  · obtain ⟨v', w', hrun, q1, q2, _, q4⟩ := run_append_own_at (P := k.P) w 0 T ty E i z sz eb hT hi hz0 hz1 hz2 hz h0 v n os ho ad rows.length cap us hl hc h1c hml hb (Nat.zero_le _)
    refine fin v' w' us ?_ q1 q2 q4 hrel
    simp [execOp, resolve, invoke, builtin, e1, e3, hrun]

/-- append(nothing, data...): a row of the call's own. -/
theorem JL_append_nil {T E : TypeId} {x y : Operand} {z : Value} {sz eb eb' : Nat} {rows : List (List D)} (hT : k.P.underlying T = some (.slice E)) (he : El k.P E z sz eb) (hz : z.cells.size = sz) (h0 : 0 < sz)
    (hx : ev ρ x = .val (.slice none 0 0)) (hy : ev ρ y = .d (.l sz eb' rows)) (hb : rows.length * eb ≤ 140737488355328) (hm : rows.length ≤ 140737488355328) (hd : ∀ t, dst = some t → t < k.n)
    (hj : ∀ v', JL k ops l Q (put ρ dst (.val v')) (.row v' rows.length E sz (rows.flatten.map D.av) :: h)) :
    JL k ops (⟨dst, .call { callee := .builtin .append, args := #[x, y], argTypes := #[T, T] }, ty, pos, after, none⟩ :: l) Q ρ h := by
  refine JL_vs (VS.nilrow E sz) ?_
  refine JL_append (h1 := []) (h2 := h) (n := 0) (xs := []) (v := .slice none 0 0) hT he hz h0 hx hy rfl (by simpa using hb) (by simpa using hm) hd fun v' => ?_
  simpa using hj v'

/-- A row, handed on as data: nobody writes it any more. -/
theorem VS.freeze {v : Value} {n : Nat} {E : TypeId} {sz eb : Nat} {rows : List (List D)} {h1 h2 : H} {t : Nat} (h0 : 0 < sz) (ht : get ρ t = .val v) (hh : h = h1 ++ .row v n E sz (rows.flatten.map D.av) :: h2) (hn : rows.length = n) (hsz : ∀ r ∈ rows, r.length = sz) (hb : n * eb ≤ 140737488355328) :
    VS ρ h ((t, .d (.l sz eb rows)) :: ρ) (h1 ++ h2) := by
  subst hh
  intro c I m a w k1 k2
  obtain ⟨os, ho, hos⟩ := k1.ent (.row v n E sz (rows.flatten.map D.av)) (by simp)
  have hv : a.tmps.getD t undef = v := rel_val (k2.2 t) ht
  have hput : ∀ (I' : Nat → Prop), (∀ b, I b → I' b) → Rel w I' (.l sz eb rows) v → SF m w I' ((t, .d (.l sz eb rows)) :: ρ) a := by
    intro I' hI hr
    refine ⟨k2.1, fun s => ?_⟩
    simp only [get]
    cases hbq : Nat.beq t s with
    | true => rw [← Nat.eq_of_beq_eq_true hbq, hv]; exact hr
    | false => exact AV.rel_mono (fun _ _ => rfl) hI (k2.2 s)
  rcases ho.2 with ⟨rfl, rfl⟩ | ⟨g, cap, cur, rfl, _, hg, hnc, hcm, hcs, htake⟩
  · have : rows = [] := List.eq_nil_of_length_eq_zero hn
    subst this
    have hok : Ok c I (h1 ++ h2) w := by
      have hbe : blks (h1 ++ Ent.row (.slice none 0 0) 0 E sz (List.map D.av [].flatten) :: h2) = blks (h1 ++ h2) := by rw [blks_append, blks_append]; rfl
      exact { ent := fun e he => k1.ent e (((List.sublist_cons_self _ h2).append_left h1).subset he), nd := hbe ▸ k1.nd, imm := fun b hb => hbe ▸ k1.imm b hb, new := fun b hb => k1.new b (hbe ▸ hb), inew := k1.inew, sup := k1.sup, os := k1.os, tape := k1.tape, output := k1.output, size := k1.size, keep := k1.keep, glob := k1.glob }
    exact ⟨I, hok, hput I (fun _ h => h) (.nil sz eb)⟩
  · have hok := k1.release (b := g) (e := .row (.slice (some ⟨g, 0, none⟩) n cap) n E sz (rows.flatten.map D.av)) rfl
    refine ⟨_, hok, hput _ (fun _ h => .inl h) ?_⟩
    subst hn
    have hcell : ∀ q x, rows.flatten[q]? = some x → ∃ c, w.cell? ((⟨g, 0, none⟩ : Addr).add q) = some c ∧ Rel w I x c := fun q x hx => by
      obtain ⟨c, hc1, hc2⟩ := AV.rels_get hos q x.av (by rw [List.getElem?_map, hx]; rfl)
      refine ⟨c, ?_, D.av_rel' hc2⟩
      exact ho.cells (g := g) rfl q c hc1
    let css : Nat → Nat → Value := fun j u => (w.cell? ((⟨g, 0, none⟩ : Addr).add (j * sz + u))).getD undef
    have hq : ∀ (j u : Nat) (r : List D) (x : D), rows[j]? = some r → r[u]? = some x → rows.flatten[j * sz + u]? = some x := fun j u r x hr hx => by
      have hu : u < sz := by
        have := (List.getElem?_eq_some_iff.1 hx).1
        rwa [hsz r (List.mem_of_getElem? hr)] at this
      rw [flatten_get h0 rows hsz, Nat.add_comm, Nat.add_mul_div_right _ _ h0, Nat.add_mul_mod_self_right, Nat.div_eq_of_lt hu, Nat.mod_eq_of_lt hu, Nat.zero_add, hr]
      exact hx
    refine .l sz eb rows ⟨g, 0, none⟩ cap css (.inr rfl) hnc hcm hb hsz (fun j u r x hr hx => ?_) (fun j u r x hr hx => ?_)
    · obtain ⟨c, hc1, _⟩ := hcell _ x (hq j u r x hr hx)
      simp only [css, hc1, Option.getD_some]
    · obtain ⟨c, hc1, hc2⟩ := hcell _ x (hq j u r x hr hx)
      simp only [css, hc1, Option.getD_some]
      exact hc2.mono (fun _ _ => rfl) fun _ h => .inl h

theorem Rel.len_le {w : World} {I : Nat → Prop} {sz eb : Nat} {rows : List (List D)} {v : Value} (h : Rel w I (.l sz eb rows) v) : rows.length * eb ≤ 140737488355328 ∧ ∀ r ∈ rows, r.length = sz := by
  cases h with
  | nil => exact ⟨by simp, by simp⟩
  | emp => exact ⟨by simp, by simp⟩
  | l _ _ _ _ _ _ _ _ _ hb hsz => exact ⟨hb, hsz⟩

/-- A slice that came in is no longer than memory lets. -/
theorem J_fact {x : Code} {t sz eb : Nat} {rows : List (List D)} (ht : get ρ t = .d (.l sz eb rows)) (hj : rows.length * eb ≤ 140737488355328 → J k x Q ρ h) : J k x Q ρ h :=
  fun I a w h1 h2 h3 => hj (Rel.len_le (rel_as (h2.2 t) ht)).1 I a w h1 h2 h3
theorem JL_fact {t sz eb : Nat} {rows : List (List D)} (ht : get ρ t = .d (.l sz eb rows)) (hj : rows.length * eb ≤ 140737488355328 → JL k ops l Q ρ h) : JL k ops l Q ρ h :=
  fun I a w h1 h2 h3 => hj (Rel.len_le (rel_as (h2.2 t) ht)).1 I a w h1 h2 h3

/-! ### Literals of slices -/
theorem fold_set : ∀ (us : List Value) (j : Nat) (cs : Array Value) (pre post : List Value), cs.toList = pre ++ post → us.length ≤ post.length → ((us.zipIdx j).foldl (fun (cs : Array Value) (p : Value × Nat) => cs.setIfInBounds (pre.length - j + p.2) p.1) cs).toList = pre ++ us ++ post.drop us.length ∨ pre.length < j
  | [], _, cs, pre, post, h, _ => .inl (by simp [h])
  | u :: us, j, cs, pre, post, h, hl => by
    by_cases hj : pre.length < j
    · exact .inr hj
    refine .inl ?_
    match post, hl with
    | q :: post, hl =>
      have ih := fold_set us (j + 1) (cs.setIfInBounds pre.length u) (pre ++ [u]) post (by simp [h]) (by simpa using hl)
      rcases ih with ih | ih
      · have e : ∀ (p : Value × Nat), (pre ++ [u]).length - (j + 1) + p.2 = pre.length - j + p.2 := fun p => by simp
        simp only [e] at ih
        have e2 : pre.length - j + j = pre.length := by omega
        simp only [List.zipIdx_cons, List.foldl_cons, e2]
        rw [ih]; simp
      · simp at ih; omega

theorem fill_seq {sz : Nat} : ∀ (vs : List Value) (j : Nat) (cs : Array Value) (pre post : List Value), (∀ v ∈ vs, v.cells.size = sz) → cs.toList = pre ++ post → pre.length = j * sz → post.length = vs.length * sz →
    ∃ cs', Instr.fill (fun i => some (i * sz, sz)) cs ((vs.zipIdx j).map fun p => (p.2, p.1)) = some cs' ∧ cs'.toList = pre ++ vs.flatMap fun v => v.cells.toList
  | [], _, cs, pre, post, _, h, _, hp => ⟨cs, rfl, by have : post = [] := List.eq_nil_of_length_eq_zero (by simpa using hp); simp [h, this]⟩
  | v :: vs, j, cs, pre, post, hs, h, hpre, hp => by
    have hv : v.cells.size = sz := hs v (by simp)
    have hsize : cs.size = pre.length + post.length := by rw [← Array.length_toList, h, List.length_append]
    have hle : v.cells.toList.length ≤ post.length := by rw [hp, List.length_cons, Nat.succ_mul]; simp [hv]
    have hf := fold_set v.cells.toList 0 cs pre post h hle
    rcases hf with hf | hf
    case inr => omega
    simp only [Nat.sub_zero] at hf
    obtain ⟨cs', h1, h2⟩ := fill_seq vs (j + 1) ((v.cells.toList.zipIdx).foldl (fun (cs : Array Value) (p : Value × Nat) => cs.setIfInBounds (pre.length + p.2) p.1) cs) (pre ++ v.cells.toList) (post.drop v.cells.toList.length)
      (fun u hu => hs u (by simp [hu])) (by rw [hf]) (by simp [hpre, hv, Nat.succ_mul]) (by rw [List.length_drop, hp, List.length_cons, Nat.succ_mul]; simp [hv])
    refine ⟨cs', ?_, by rw [h2]; simp⟩
    have hb : (v.cells.size ≠ sz || j * sz + v.cells.size > cs.size) = false := by
      have : ¬ (j * sz + v.cells.size > cs.size) := by
        rw [hsize, hpre]
        have : v.cells.toList.length = v.cells.size := by simp
        omega
      exact Bool.or_eq_false_iff.2 ⟨by simp [hv], decide_eq_false this⟩
    simp only [List.zipIdx_cons, List.map_cons, Instr.fill, hb, Bool.false_eq_true, if_false]
    rw [← hpre, ← h1]
    congr 1
    rw [← Array.foldl_toList, Array.toList_zipIdx]

theorem evs_data {n : Nat} {w : World} {I : Nat → Prop} {ρ : Env} {a : Act} (f : SF n w I ρ a) : ∀ (xs : List Operand) (rows : List (List D)), xs.map (fun x => (ev ρ x).cl) = rows.map (·.map D.av) → (∀ x ∈ xs, (ev ρ x).stor = true) →
    AV.rels w I (rows.flatten.map D.av) ((xs.map a.eval).flatMap fun v => v.cells.toList) ∧ ∀ v ∈ xs.map a.eval, ∃ r ∈ rows, v.cells.size = r.length
  | [], [], _, _ => ⟨trivial, by simp⟩
  | x :: xs, r :: rows, h, hs => by
    simp only [List.map_cons, List.cons.injEq] at h
    obtain ⟨i1, i2⟩ := evs_data f xs rows h.2 fun x hx => hs x (by simp [hx])
    have hr := cl_rel (hs x (by simp)) (f.ev x)
    rw [h.1] at hr
    refine ⟨by simpa using AV.rels_append hr i1, fun v hv => ?_⟩
    simp only [List.map_cons, List.mem_cons] at hv
    rcases hv with rfl | hv
    · refine ⟨r, by simp, ?_⟩
      have := AV.rels_length hr
      simpa using this.symm
    · obtain ⟨r', h1, h2⟩ := i2 v hv
      exact ⟨r', by simp [h1], h2⟩

/-- A literal of data. -/
theorem JL_buildSlice {T E : TypeId} {z : Value} {sz eb len : Nat} {parts : Array (Nat × Operand)} {xs : List Operand} {rows : List (List D)} (hT : k.P.underlying T = some (.slice E)) (he : El k.P E z sz eb) (h0 : 0 < sz)
    (hp : parts = ((xs.zipIdx).map fun p => (p.2, p.1)).toArray) (hl : len = xs.length) (hr : xs.map (fun x => (ev ρ x).cl) = rows.map (·.map D.av)) (hs : ∀ x ∈ xs, (ev ρ x).stor = true) (hsz : ∀ r ∈ rows, r.length = sz) (hb : rows.length * eb ≤ 140737488355328) (hc : rows.length * sz ≤ 16777216)
    (hd : ∀ t, dst = some t → t < k.n) (hj : JL k ops l Q (put ρ dst (.d (.l sz eb rows))) h) : JL k ops (⟨dst, .buildSlice T len parts, ty, pos, after, none⟩ :: l) Q ρ h := by
  obtain ⟨i, hi, hz0, hz1, _⟩ := he.get
  have hxl : xs.length = rows.length := by have := congrArg List.length hr; simpa using this
  refine JL_eff rfl hd fun I a w k1 k2 => ?_
  obtain ⟨hrel, hcs⟩ := evs_data k2 xs rows hr hs
  have hsv : ∀ v ∈ xs.map a.eval, v.cells.size = sz := fun v hv => by obtain ⟨r, h1, h2⟩ := hcs v hv; rw [h2]; exact hsz r h1
  let zc : Array Value := if len * sz = 0 then #[] else z.cells
  obtain ⟨cells, hf1, hf2⟩ := fill_seq (sz := sz) (xs.map a.eval) 0 ((Array.range (len * sz)).map (zc[· % zc.size]!)) [] ((Array.range (len * sz)).map (zc[· % zc.size]!)).toList hsv rfl (by simp) (by simp [hl])
  simp only [List.nil_append] at hf2
  have hrun : (Instr.buildSlice T len (parts.map fun (i, x) => (i, a.eval x))).run k.P w = .ok (.slice (some ⟨w.heap.size, 0, none⟩) len len) (w.alloc (.cells cells E)) := by
    have hparts : (parts.map fun (i, x) => (i, a.eval x)).toList = ((xs.map a.eval).zipIdx 0).map fun p => (p.2, p.1) := by
      rw [hp]; simp [List.zipIdx_map]
    have hlt : ¬ len * sz > 2 ^ 24 := by rw [hl, hxl]; omega
    simp only [Instr.buildSlice, Sem.run_bind, run_underlying hT, Result.andThen_ok, sizeOf, typeInfo, run_program, hi, Sem.run_pure, hz1, hlt, if_false, Sem.run_ite, zeroValue, hz0]
    by_cases hzz : len * sz = 0
    · simp only [zc, hzz, if_true] at hf1
      simp only [hzz, if_true, hparts]
      rw [hf1]; simp [newRow]
    · simp only [zc, hzz, if_false] at hf1
      simp only [hzz, if_false, hparts]
      rw [hf1]; simp [newRow]
  have hmono : ∀ b, I b → (w.alloc (.cells cells E)).heap[b]? = w.heap[b]? := fun b hb => Go.RowKit.Below.heap_alloc w _ b (k1.imm b hb).1
  have hok := k1.fresh (.cells cells E) (.cells w.heap.size E (rows.flatten.map D.av)) rfl ⟨cells, heap_alloc_new w _, by rw [hf2]; exact AV.rels_mono hmono (fun _ h => h) hrel⟩
  have hok' := Ok.release (h1 := []) (b := w.heap.size) hok rfl
  refine ⟨.slice (some ⟨w.heap.size, 0, none⟩) rows.length rows.length, w.alloc (.cells cells E), _, .d (.l sz eb rows), _, ?_, hok', (k2.mono hmono fun _ h => .inl h), ?_, hj⟩
  · rw [← hxl, ← hl]
    simp only [execOp, Sem.run_bind, hrun, Result.andThen_ok, Sem.run_pure]
  · have hcell : ∀ q x, rows.flatten[q]? = some x → ∃ c, (w.alloc (.cells cells E)).cell? ((⟨w.heap.size, 0, none⟩ : Addr).add q) = some c ∧ Rel w I x c := fun q x hx => by
      obtain ⟨c, hc1, hc2⟩ := AV.rels_get hrel q x.av (by rw [List.getElem?_map, hx]; rfl)
      refine ⟨c, ?_, D.av_rel' hc2⟩
      rw [Addr.add_lit, World.cell?_alloc_new, Nat.zero_add, ← Array.getElem?_toList, hf2]
      exact hc1
    have hq : ∀ (j u : Nat) (r : List D) (x : D), rows[j]? = some r → r[u]? = some x → rows.flatten[j * sz + u]? = some x := fun j u r x hr hx => by
      have hu : u < sz := by
        have := (List.getElem?_eq_some_iff.1 hx).1
        rwa [hsz r (List.mem_of_getElem? hr)] at this
      rw [flatten_get h0 rows hsz, Nat.add_comm, Nat.add_mul_div_right _ _ h0, Nat.add_mul_mod_self_right, Nat.div_eq_of_lt hu, Nat.mod_eq_of_lt hu, Nat.zero_add, hr]
      exact hx
    refine .l sz eb rows ⟨w.heap.size, 0, none⟩ rows.length (fun j u => ((w.alloc (.cells cells E)).cell? ((⟨w.heap.size, 0, none⟩ : Addr).add (j * sz + u))).getD undef) (.inr rfl) (Nat.le_refl _) ?_ hb hsz (fun j u r x hr hx => ?_) (fun j u r x hr hx => ?_)
    · have : rows.length ≤ rows.length * sz := Nat.le_mul_of_pos_right _ h0
      simp only [maxLen]; omega
    · obtain ⟨c, hc1, _⟩ := hcell _ x (hq j u r x hr hx)
      simp only [hc1, Option.getD_some]
    · obtain ⟨c, hc1, hc2⟩ := hcell _ x (hq j u r x hr hx)
      simp only [hc1, Option.getD_some]
      exact hc2.mono hmono fun _ h => .inl h
end

/-! ### Cuts -/
section
variable {P : Program} {G : List (Nat × List D)} {ρ : Env} {h : H} {dst : Option Tmp} {ty : TypeId} {pos : String} {after : Array Edge} {g : Option (Nat × Bool)}

theorem Rel.cut {w : World} {I : Nat → Prop} {sz eb a b cap : Nat} {rows : List (List D)} {ad : Option Addr} (h : Rel w I (.l sz eb rows) (.slice ad rows.length cap)) (h1 : a ≤ b) (h2 : b ≤ rows.length) :
    Rel w I (.l sz eb ((rows.drop a).take (b - a))) (.slice (if cap = a then ad else ad.map (·.add (a * sz))) (b - a) (cap - a)) := by
  generalize hv : Value.slice ad rows.length cap = v at h
  cases h with
  | nil =>
    cases hv
    have ha : a = 0 := by simp at h2; omega
    have hb : b = 0 := by simpa using h2
    subst ha; subst hb
    exact .nil sz eb
  | emp _ _ ad0 =>
    cases hv
    have ha : a = 0 := by simp at h2; omega
    have hb : b = 0 := by simpa using h2
    subst ha; subst hb
    exact .emp sz eb ad0
  | l _ _ _ ad0 cap0 css hI hcap hm hb hsz hc hr =>
    cases hv
    have hlen : ((rows.drop a).take (b - a)).length = b - a := by rw [List.length_take, List.length_drop]; omega
    have hbnd : ((rows.drop a).take (b - a)).length * eb ≤ 140737488355328 := Nat.le_trans (Nat.mul_le_mul_right eb (by rw [hlen]; omega)) hb
    have hszs : ∀ r ∈ (rows.drop a).take (b - a), r.length = sz := fun r hr => hsz r (List.mem_of_mem_drop (List.mem_of_mem_take hr))
    have hget : ∀ (j : Nat) (r : List D), ((rows.drop a).take (b - a))[j]? = some r → rows[a + j]? = some r := fun j r hj => by
      rw [List.getElem?_take] at hj
      split at hj
      · rwa [List.getElem?_drop] at hj
      · cases hj
    by_cases hca : cap = a
    · have h0 : (rows.drop a).take (b - a) = [] := List.eq_nil_of_length_eq_zero (by rw [hlen]; omega)
      have hba : b - a = 0 := by omega
      rw [if_pos hca, h0, hba]
      exact .l sz eb [] ad0 _ css hI (Nat.zero_le _) (by omega) (by simp) (by simp) (by simp) (by simp)
    · rw [if_neg hca]
      have := Rel.l (w := w) (I := I) sz eb ((rows.drop a).take (b - a)) (ad0.add (a * sz)) (cap - a) (fun j u => css (a + j) u) (by rw [addr_block]; exact hI) (by rw [hlen]; omega) (by omega) hbnd hszs
        (fun j u r x hj hx => by rw [Addr.add_add, ← Nat.add_assoc, ← Nat.add_mul]; exact hc _ u r x (hget j r hj) hx) (fun j u r x hj hx => hr _ u r x (hget j r hj) hx)
      rw [hlen] at this
      exact this

theorem pure_slice {T E : TypeId} {x lo hi : Operand} {sz eb : Nat} {rows : List (List D)} {m n : Int} {z : Value} {eb' : Nat} (hT : P.underlying T = some (.slice E)) (hE : El P E z sz eb') (hx : ev ρ x = .d (.l sz eb rows)) (hlo : ev ρ lo = .int m) (hhi : ev ρ hi = .int n)
    (h0 : 0 ≤ m) (h1 : m ≤ n) (h2 : n ≤ rows.length) : Pure P G ⟨dst, .slice T x (some lo) (some hi) none, ty, pos, after, g⟩ ρ h (.d (.l sz eb ((rows.drop m.toNat).take (n.toNat - m.toNat)))) :=
  pure_free fun w I _ a hs => by
    obtain ⟨i, hE, _, hsz, _⟩ := hE.get
    have e1 := rel_as (hs.ev x) hx
    have e2 := rel_val (hs.ev lo) hlo
    have e3 := rel_val (hs.ev hi) hhi
    obtain ⟨ad, cap, hv, hcap⟩ : ∃ ad cap, a.eval x = .slice ad rows.length cap ∧ rows.length ≤ cap := by
      generalize a.eval x = v at e1
      cases e1 with
      | nil => exact ⟨none, 0, rfl, Nat.le_refl _⟩
      | emp _ _ ad => exact ⟨some ad, 0, rfl, Nat.le_refl _⟩
      | l _ _ _ ad cap css hI hcap => exact ⟨some ad, cap, rfl, hcap⟩
    rw [hv] at e1
    refine ⟨_, Rel.cut (a := m.toNat) (b := n.toNat) e1 (by omega) (by omega), fun w' => ?_⟩
    have b1 : 0 ≤ n ∧ n ≤ (cap : Int) := by omega
    have b2 : 0 ≤ m ∧ m ≤ (n.toNat : Int) := by omega
    simp [execOp, hv, e2, e3, Instr.sliceAt, run_underlying hT, Instr.slice, Instr.sliceBounds, Instr.sliceBound, asIntOf, b1, b2, sizeOf, typeInfo, hE, hsz]
    intro hc; omega

theorem pure_slice_from {T E : TypeId} {x lo : Operand} {sz eb : Nat} {rows : List (List D)} {m : Int} {z : Value} {eb' : Nat} (hT : P.underlying T = some (.slice E)) (hE : El P E z sz eb') (hx : ev ρ x = .d (.l sz eb rows)) (hlo : ev ρ lo = .int m)
    (h0 : 0 ≤ m) (h1 : m ≤ rows.length) : Pure P G ⟨dst, .slice T x (some lo) none none, ty, pos, after, g⟩ ρ h (.d (.l sz eb (rows.drop m.toNat))) :=
  pure_free fun w I _ a hs => by
    obtain ⟨i, hE, _, hsz, _⟩ := hE.get
    have e1 := rel_as (hs.ev x) hx
    have e2 := rel_val (hs.ev lo) hlo
    obtain ⟨ad, cap, hv, hcap⟩ : ∃ ad cap, a.eval x = .slice ad rows.length cap ∧ rows.length ≤ cap := by
      generalize a.eval x = v at e1
      cases e1 with
      | nil => exact ⟨none, 0, rfl, Nat.le_refl _⟩
      | emp _ _ ad => exact ⟨some ad, 0, rfl, Nat.le_refl _⟩
      | l _ _ _ ad cap css hI hcap => exact ⟨some ad, cap, rfl, hcap⟩
    rw [hv] at e1
    have hc := Rel.cut (a := m.toNat) (b := rows.length) e1 (by omega) (Nat.le_refl _)
    rw [List.take_of_length_le (by rw [List.length_drop]; omega)] at hc
    refine ⟨_, hc, fun w' => ?_⟩
    have b2 : 0 ≤ m ∧ m ≤ (rows.length : Int) := by omega
    simp [execOp, hv, e2, Instr.sliceAt, run_underlying hT, Instr.slice, Instr.sliceBounds, Instr.sliceBound, asIntOf, b2, sizeOf, typeInfo, hE, hsz]

theorem pure_slice_to {T E : TypeId} {x hi : Operand} {sz eb : Nat} {rows : List (List D)} {n : Int} {z : Value} {eb' : Nat} (hT : P.underlying T = some (.slice E)) (hE : El P E z sz eb') (hx : ev ρ x = .d (.l sz eb rows)) (hhi : ev ρ hi = .int n)
    (h0 : 0 ≤ n) (h2 : n ≤ rows.length) : Pure P G ⟨dst, .slice T x none (some hi) none, ty, pos, after, g⟩ ρ h (.d (.l sz eb (rows.take n.toNat))) :=
  pure_free fun w I _ a hs => by
    obtain ⟨i, hE, _, _, _⟩ := hE.get
    have e1 := rel_as (hs.ev x) hx
    have e3 := rel_val (hs.ev hi) hhi
    obtain ⟨ad, cap, hv, hcap⟩ : ∃ ad cap, a.eval x = .slice ad rows.length cap ∧ rows.length ≤ cap := by
      generalize a.eval x = v at e1
      cases e1 with
      | nil => exact ⟨none, 0, rfl, Nat.le_refl _⟩
      | emp _ _ ad => exact ⟨some ad, 0, rfl, Nat.le_refl _⟩
      | l _ _ _ ad cap css hI hcap => exact ⟨some ad, cap, rfl, hcap⟩
    rw [hv] at e1
    have hc := Rel.cut (a := 0) (b := n.toNat) e1 (Nat.zero_le _) (by omega)
    simp only [List.drop_zero, Nat.sub_zero, Nat.zero_mul] at hc
    refine ⟨_, hc, fun w' => ?_⟩
    have b1 : 0 ≤ n ∧ n ≤ (cap : Int) := by omega
    simp [execOp, hv, e3, Instr.sliceAt, run_underlying hT, Instr.slice, Instr.sliceBounds, Instr.sliceBound, asIntOf, b1, sizeOf, typeInfo, hE]
end
end Go.Av
