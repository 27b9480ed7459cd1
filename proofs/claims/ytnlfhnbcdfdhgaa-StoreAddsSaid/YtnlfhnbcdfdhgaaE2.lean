/-
 PLAIN, NO PROGRAM: the logic over values: appends, literals, loops, calls that borrow (over E1).
-/
import Derived.Test.YtnlfhnbcdfdhgaaE1
import Derived.Defers
import Derived.Recover
import Derived.Laws.Tables
import Derived.Laws.StructEq
namespace Go.Av
open Go
set_option linter.unusedVariables false
set_option linter.unusedSimpArgs false

theorem D.av_rel' {w : World} {I : Nat → Prop} {x : D} {v : Value} (h : AV.rel w I x.av v) : Rel w I x v := by
 cases x with
 | i k n => cases h; exact .i k n
 | b x => cases h; exact .b x
 | s x => cases h; exact .s x
 | l sz eb rows => exact h

theorem D.av_flat (x : D) : x.av.flat = true := by cases x <;> rfl

theorem rels_of_get {w : World} {I : Nat → Prop} : ∀ {xs : List AV} {vs : List Value}, xs.length = vs.length → (∀ (j : Nat) (x : AV) (v : Value), xs[j]? = some x → vs[j]? = some v → AV.rel w I x v) → AV.rels w I xs vs
 | [], [], _, _ => trivial
 | x :: xs, v :: vs, hl, h => ⟨h 0 x v rfl rfl, rels_of_get (by simpa using hl) fun j y u h1 h2 => h (j + 1) y u (by simpa using h1) (by simpa using h2)⟩

theorem flatten_get {α : Type} {sz : Nat} (h0 : 0 < sz) : ∀ (rows : List (List α)), (∀ r ∈ rows, r.length = sz) → ∀ q, rows.flatten[q]? = (rows[q / sz]?).bind (·[q % sz]?)
 | [], _, q => by simp
 | r :: rows, h, q => by
   have hr : r.length = sz := h r (by simp)
   have ih := flatten_get h0 rows (fun r hr => h r (by simp [hr]))
   rw [List.flatten_cons]
   by_cases hq : q < sz
   · rw [List.getElem?_append_left (by omega), Nat.div_eq_of_lt hq, Nat.mod_eq_of_lt hq]; rfl
   · rw [List.getElem?_append_right (by omega), hr, ih]
     have h1 : q = (q - sz) + sz := by omega
     have h2 : q / sz = (q - sz) / sz + 1 := by conv => lhs; rw [h1]; rw [Nat.add_div_right _ h0]
     have h3 : q % sz = (q - sz) % sz := by conv => lhs; rw [h1]; rw [Nat.add_mod_right]
     rw [h2, h3]; rfl

theorem flatten_length {α : Type} {sz : Nat} : ∀ (rows : List (List α)), (∀ r ∈ rows, r.length = sz) → rows.flatten.length = rows.length * sz
 | [], _ => by simp
 | r :: rows, h => by
   rw [List.flatten_cons, List.length_append, flatten_length rows (fun r hr => h r (by simp [hr])), h r (by simp), List.length_cons, Nat.succ_mul, Nat.add_comm]

/-- The cells that a slice of data has. -/
theorem Rel.cells_of {w : World} {I : Nat → Prop} {sz eb : Nat} {rows : List (List D)} {v : Value} (h0 : 0 < sz) (h : Rel w I (.l sz eb rows) v) :
 (v = .slice none 0 0 ∧ rows = []) ∨ ∃ ad cap us, v = .slice (some ad) rows.length cap ∧ us.length = rows.length * sz ∧ (∀ (j : Nat) (u : Value), us[j]? = some u → w.cell? (ad.add j) = some u) ∧ (∀ u ∈ us, u.oneCell' = true) ∧ AV.rels w I (rows.flatten.map D.av) us := by
 cases h with
 | nil => exact .inl ⟨rfl, rfl⟩
 | emp _ _ ad => exact .inr ⟨ad, 0, [], rfl, by simp, by simp, by simp, trivial⟩
 | l _ _ _ ad cap css hI hcap hm hb hsz hc hr =>
   refine .inr ⟨ad, cap, (List.range (rows.length * sz)).map fun q => css (q / sz) (q % sz), rfl, by simp, ?_, ?_, ?_⟩
   all_goals
    have key : ∀ q, q < rows.length * sz → ∃ r x, rows[q / sz]? = some r ∧ r[q % sz]? = some x := fun q hq => by
     have h1 : q / sz < rows.length := (Nat.div_lt_iff_lt_mul h0).2 hq
     have h2 : q % sz < (rows[q / sz]).length := by rw [hsz _ (List.getElem_mem h1)]; exact Nat.mod_lt _ h0
     exact ⟨rows[q / sz], (rows[q / sz])[q % sz], List.getElem?_eq_getElem h1, List.getElem?_eq_getElem h2⟩
   · intro q u hu
     by_cases hq : q < rows.length * sz
     · rw [List.getElem?_map, List.getElem?_range hq] at hu
       simp at hu
       subst hu
       obtain ⟨r, x, h1, h2⟩ := key q hq
       have := hc _ _ r x h1 h2
       rwa [Nat.mul_comm, Nat.div_add_mod] at this
     · rw [List.getElem?_eq_none (by simp; omega)] at hu; cases hu
   · intro u hu
     obtain ⟨q, hq, rfl⟩ := List.mem_map.1 hu
     obtain ⟨r, x, h1, h2⟩ := key q (List.mem_range.1 hq)
     exact (hr _ _ r x h1 h2).oneCell
   · refine rels_of_get (by rw [List.length_map, flatten_length rows hsz]; simp) fun j x v h1 h2 => ?_
     rw [List.getElem?_map] at h1 h2
     have hj : j < rows.length * sz := by
      by_cases hq : j < rows.length * sz
      · exact hq
      · rw [List.getElem?_eq_none (by simp; omega)] at h2; cases h2
     rw [List.getElem?_range hj] at h2
     simp at h2
     subst h2
     obtain ⟨r, y, h3, h4⟩ := key j hj
     rw [flatten_get h0 rows hsz, h3] at h1
     simp [h4] at h1
     subst h1
     exact D.av_rel (hr _ _ r y h3 h4)

section
variable {k : Kx} {Q : Exit → Env → H → Prop} {ρ ρ' : Env} {h h' : H} {ops : Array Oper} {l : List Oper} {dst : Option Tmp} {ty : TypeId} {pos : String} {after : Array Edge} {g : Option (Nat × Bool)}

/-- An owned row after an append: the entry told anew (its block perhaps another one). -/
theorem Ok.grown {c : Cx} {I : Nat → Prop} {h1 h2 : H} {v v' : Value} {n m : Nat} {T : TypeId} {sz : Nat} {xs ys : List AV} {us : List Value} {w w' : World} (k : Ok c I (h1 ++ .row v n T sz xs :: h2) w)
 (hg : w.grownBy w' v.ownBlock) (hb : v'.ownBlock = v.ownBlock ∨ v'.ownBlock = some w.heap.size) (ho : ∃ os, w'.ownsRow 0 T sz v' m (os ++ us) ∧ w.ownsRow 0 T sz v n os ∧ AV.rels w I xs os) (hy : AV.rels w I ys us) :
 Ok c I (h1 ++ .row v' m T sz (xs ++ ys) :: h2) w' ∧ ∀ x, I x → w'.heap[x]? = w.heap[x]? := by
 obtain ⟨os, ho1, ho2, ho3⟩ := ho
 have hbv : ∀ x, v.ownBlock = some x → x ∈ blks (h1 ++ .row v n T sz xs :: h2) := fun x hx => by
  unfold blks; exact List.mem_filterMap.2 ⟨.row v n T sz xs, by simp, hx⟩
 have hI : ∀ x, I x → w'.heap[x]? = w.heap[x]? := fun x hx => hg.block x (k.imm x hx).1 fun e => (k.imm x hx).2 (hbv x e.symm)
 have hnd := k.nd
 have hsplit : ∀ (e : Ent), blks (h1 ++ e :: h2) = blks h1 ++ (e.blk.toList ++ blks h2) := fun e => by
  simp only [blks, List.filterMap_append, List.filterMap_cons]
  cases e.blk <;> rfl
 rw [hsplit] at hnd
 have hn3 := List.nodup_append.1 hnd
 have hn4 := List.nodup_append.1 hn3.2.1
 have hlt : ∀ e ∈ h1 ++ .row v n T sz xs :: h2, ∀ x, e.blk = some x → x < w.heap.size := fun e he x hx => Ent.blk_lt (k.ent e he) hx
 have hother : ∀ e, (e ∈ h1 ∨ e ∈ h2) → ∀ x, e.blk = some x → w'.heap[x]? = w.heap[x]? := by
  intro e he x hx
  refine hg.block x (hlt e (by rcases he with h | h <;> simp [h]) x hx) fun e1 => ?_
  rcases he with h | h
  · exact hn3.2.2 x (List.mem_filterMap.2 ⟨e, h, hx⟩) x (by simp [Ent.blk, ← e1]) rfl
  · exact hn4.2.2 x (by simp [Ent.blk, ← e1]) x (List.mem_filterMap.2 ⟨e, h, hx⟩) rfl
 have hnew : ∀ x, v'.ownBlock = some x → x ∉ blks h1 ∧ x ∉ blks h2 ∧ ¬ I x ∧ (x ∈ c.E ∨ c.W.heap.size ≤ x) := by
  intro x hx
  rcases hb with hb | hb
  · rw [hb] at hx
    refine ⟨fun hm => hn3.2.2 x hm x (by simp [Ent.blk, hx]) rfl, fun hm => hn4.2.2 x (by simp [Ent.blk, hx]) x hm rfl, fun hI => (k.imm x hI).2 (hbv x hx), k.new x (hbv x hx)⟩
  · rw [hb] at hx
    cases hx
    refine ⟨fun hm => ?_, fun hm => ?_, fun hI => absurd (k.imm _ hI).1 (Nat.lt_irrefl _), .inr k.size⟩
    · obtain ⟨e, he, hx⟩ := List.mem_filterMap.1 hm
      exact absurd (hlt e (by simp [he]) _ hx) (Nat.lt_irrefl _)
    · obtain ⟨e, he, hx⟩ := List.mem_filterMap.1 hm
      exact absurd (hlt e (by simp [he]) _ hx) (Nat.lt_irrefl _)
 have hmono : ∀ {as : List AV} {bs : List Value}, AV.rels w I as bs → AV.rels w' I as bs := fun h => AV.rels_mono hI (fun _ h => h) h
 refine ⟨?_, hI⟩
 exact
 { ent := fun e he => by
    rcases List.mem_append.1 he with he | he
    · exact Ent.rel_mono hI (fun _ h => h) (hother e (.inl he)) (k.ent e (List.mem_append.2 (.inl he)))
    · rcases List.mem_cons.1 he with rfl | he
      · exact ⟨_, ho1, AV.rels_append (hmono ho3) (hmono hy)⟩
      · exact Ent.rel_mono hI (fun _ h => h) (hother e (.inr he)) (k.ent e (List.mem_append.2 (.inr (List.mem_cons_of_mem _ he))))
   nd := by
    rw [hsplit]
    refine List.nodup_append.2 ⟨hn3.1, List.nodup_append.2 ⟨by cases (Ent.row v' m T sz (xs ++ ys)).blk <;> simp, hn4.2.1, ?_⟩, ?_⟩
    · intro a ha b hb e1
      subst e1
      have hx : v'.ownBlock = some a := by simpa [Ent.blk, Option.mem_toList] using ha
      exact (hnew a hx).2.1 hb
    · intro a ha b hb e1
      subst e1
      rcases List.mem_append.1 hb with hb | hb
      · have hx : v'.ownBlock = some a := by simpa [Ent.blk, Option.mem_toList] using hb
        exact (hnew a hx).1 ha
      · exact hn3.2.2 a ha a (List.mem_append.2 (.inr hb)) rfl
   imm := fun x hx => by
    refine ⟨Nat.lt_of_lt_of_le (k.imm x hx).1 hg.size, fun hm => ?_⟩
    rw [hsplit] at hm
    rcases List.mem_append.1 hm with hm | hm
    · exact (k.imm x hx).2 (by rw [hsplit]; exact List.mem_append.2 (.inl hm))
    · rcases List.mem_append.1 hm with hm | hm
      · have hx' : v'.ownBlock = some x := by simpa [Ent.blk, Option.mem_toList] using hm
        exact (hnew x hx').2.2.1 hx
      · exact (k.imm x hx).2 (by rw [hsplit]; exact List.mem_append.2 (.inr (List.mem_append.2 (.inr hm))))
   new := fun x hm => by
    rw [hsplit] at hm
    rcases List.mem_append.1 hm with hm | hm
    · exact k.new x (by rw [hsplit]; exact List.mem_append.2 (.inl hm))
    · rcases List.mem_append.1 hm with hm | hm
      · have hx' : v'.ownBlock = some x := by simpa [Ent.blk, Option.mem_toList] using hm
        exact (hnew x hx').2.2.2
      · exact k.new x (by rw [hsplit]; exact List.mem_append.2 (.inr (List.mem_append.2 (.inr hm))))
   inew := k.inew
   sup := k.sup
   os := hg.os.trans k.os
   tape := hg.tape.trans k.tape
   output := hg.output.trans k.output
   size := Nat.le_trans k.size hg.size
   keep := fun x hx hE => by
    refine (hg.block x (Nat.lt_of_lt_of_le hx k.size) fun e => ?_).trans (k.keep x hx hE)
    rcases k.new x (hbv x e.symm) with h | h
    · exact hE h
    · exact absurd hx (Nat.not_lt.2 h)
   glob := fun q hq => (k.glob q hq).mono hI fun _ h => h }

/-- append(row, data...). -/
theorem JL_append {T E : TypeId} {x y : Operand} {z : Value} {sz eb eb' n : Nat} {v : Value} {xs : List AV} {rows : List (List D)} {h1 h2 : H} (hT : k.P.underlying T = some (.slice E)) (he : El k.P E z sz eb) (hz : z.cells.size = sz) (h0 : 0 < sz)
 (hx : ev ρ x = .val v) (hy : ev ρ y = .d (.l sz eb' rows)) (hh : h = h1 ++ .row v n E sz xs :: h2) (hb : (n + rows.length) * eb ≤ 140737488355328) (hm : n + rows.length ≤ 140737488355328) (hd : ∀ t, dst = some t → t < k.n)
 (hj : ∀ v', JL k ops l Q (put ρ dst (.val v')) (h1 ++ .row v' (n + rows.length) E sz (xs ++ rows.flatten.map D.av) :: h2)) :
 JL k ops (⟨dst, .call { callee := .builtin .append, args := #[x, y], argTypes := #[T, T] }, ty, pos, after, none⟩ :: l) Q ρ h := by
 subst hh
 obtain ⟨i, hi, hz0, hz1, hz2⟩ := he.get
 refine JL_eff rfl hd fun I a w k1 k2 => ?_
 have e1 := rel_val (k2.ev x) hx
 have e2 := rel_as (k2.ev y) hy
 obtain ⟨os, ho, hos⟩ := k1.ent (.row v n E sz xs) (by simp)
 have hml : n + rows.length ≤ maxLen := by simp only [maxLen]; omega
 have fin : ∀ (v' : Value) (w' : World) (us : List Value), (execOp a.eval ⟨dst, .call { callee := .builtin .append, args := #[x, y], argTypes := #[T, T] }, ty, pos, after, none⟩).run k.P w = .ok (.value v') w' →
  w'.ownsRow 0 E sz v' (n + rows.length) (os ++ us) → w.grownBy w' v.ownBlock → (v'.ownBlock = v.ownBlock ∨ v'.ownBlock = some w.heap.size) → AV.rels w I (rows.flatten.map D.av) us →
  ∃ u w' I' r h', (execOp a.eval ⟨dst, .call { callee := .builtin .append, args := #[x, y], argTypes := #[T, T] }, ty, pos, after, none⟩).run k.P w = .ok (.value u) w' ∧ Ok k.c I' h' w' ∧ SF k.n w' I' ρ a ∧ AV.rel w' I' r u ∧ JL k ops l Q (put ρ dst r) h' := by
  intro v' w' us hrun how hgr hbl hus
  obtain ⟨m1, m2⟩ := k1.grown hgr hbl ⟨os, how, ho, hos⟩ hus
  exact ⟨v', w', I, .val v', _, hrun, m1, k2.mono m2 (fun _ h => h), rfl, hj v'⟩
 rcases Rel.cells_of h0 e2 with ⟨e3, rfl⟩ | ⟨ad, cap, us, e3, hl, hc, h1c, hrel⟩
 · have hrun := run_append_owned_none (P := k.P) (w := w) 0 T ty E i sz hT hi v n os ho
   refine fin v w [] ?_ (by simpa using ho) ⟨rfl, rfl, rfl, Nat.le_refl _, fun _ _ _ => rfl⟩ (.inl rfl) trivial
   simp [execOp, resolve, invoke, builtin, e1, e3, hrun]
 · obtain ⟨v', w', hrun, q1, q2, _, q4⟩ := run_append_own_at (P := k.P) w 0 T ty E i z sz eb hT hi hz0 hz1 hz2 hz h0 v n os ho ad rows.length cap us hl hc h1c hml hb (Nat.zero_le _)
   refine fin v' w' us ?_ q1 q2 q4 hrel
   simp [execOp, resolve, invoke, builtin, e1, e3, hrun]

/-- append(nothing, data...): a row of the call's own. -/
theorem JL_append_nil {T E : TypeId} {x y : Operand} {z : Value} {sz eb eb' : Nat} {rows : List (List D)} (hT : k.P.underlying T = some (.slice E)) (he : El k.P E z sz eb) (hz : z.cells.size = sz) (h0 : 0 < sz)
 (hx : ev ρ x = .val (.slice none 0 0)) (hy : ev ρ y = .d (.l sz eb' rows)) (hb : rows.length * eb ≤ 140737488355328) (hm : rows.length ≤ 140737488355328) (hd : ∀ t, dst = some t → t < k.n)
 (hj : ∀ v', JL k ops l Q (put ρ dst (.val v')) (.row v' rows.length E sz (rows.flatten.map D.av) :: h)) :
 JL k ops (⟨dst, .call { callee := .builtin .append, args := #[x, y], argTypes := #[T, T] }, ty, pos, after, none⟩ :: l) Q ρ h := by
 refine JL_vs (VS.nilrow E sz) ?_
 refine JL_append (h1 := []) (h2 := h) (n := 0) (xs := []) (v := .slice none 0 0) hT he hz h0 hx hy rfl (by simpa using hb) (by simpa using hm) hd fun v' => ?_
 simpa using hj v'

/-- A row, handed on as data: nobody writes it any more. -/
theorem VS.freeze {v : Value} {n : Nat} {E : TypeId} {sz eb : Nat} {rows : List (List D)} {h1 h2 : H} {t : Nat} (h0 : 0 < sz) (ht : get ρ t = .val v) (hh : h = h1 ++ .row v n E sz (rows.flatten.map D.av) :: h2) (hn : rows.length = n) (hsz : ∀ r ∈ rows, r.length = sz) (hb : n * eb ≤ 140737488355328) :
 VS ρ h ((t, .d (.l sz eb rows)) :: ρ) (h1 ++ h2) := by
 subst hh
 intro c I m a w k1 k2
 obtain ⟨os, ho, hos⟩ := k1.ent (.row v n E sz (rows.flatten.map D.av)) (by simp)
 have hv : a.tmps.getD t undef = v := rel_val (k2.2 t) ht
 have hput : ∀ (I' : Nat → Prop), (∀ b, I b → I' b) → Rel w I' (.l sz eb rows) v → SF m w I' ((t, .d (.l sz eb rows)) :: ρ) a := by
  intro I' hI hr
  refine ⟨k2.1, fun s => ?_⟩
  simp only [get]
  cases hbq : Nat.beq t s with
  | true => rw [← Nat.eq_of_beq_eq_true hbq, hv]; exact hr
  | false => exact AV.rel_mono (fun _ _ => rfl) hI (k2.2 s)
 rcases ho.2 with ⟨rfl, rfl⟩ | ⟨g, cap, cur, rfl, _, hg, hnc, hcm, hcs, htake⟩
 · have : rows = [] := List.eq_nil_of_length_eq_zero hn
   subst this
   have hok : Ok c I (h1 ++ h2) w := by
    have hbe : blks (h1 ++ Ent.row (.slice none 0 0) 0 E sz (List.map D.av [].flatten) :: h2) = blks (h1 ++ h2) := by rw [blks_append, blks_append]; rfl
    exact { ent := fun e he => k1.ent e (((List.sublist_cons_self _ h2).append_left h1).subset he), nd := hbe ▸ k1.nd, imm := fun b hb => hbe ▸ k1.imm b hb, new := fun b hb => k1.new b (hbe ▸ hb), inew := k1.inew, sup := k1.sup, os := k1.os, tape := k1.tape, output := k1.output, size := k1.size, keep := k1.keep, glob := k1.glob }
   exact ⟨I, hok, hput I (fun _ h => h) (.nil sz eb)⟩
 · have hok := k1.release (b := g) (e := .row (.slice (some ⟨g, 0, none⟩) n cap) n E sz (rows.flatten.map D.av)) rfl
   refine ⟨_, hok, hput _ (fun _ h => .inl h) ?_⟩
   subst hn
   have hcell : ∀ q x, rows.flatten[q]? = some x → ∃ c, w.cell? ((⟨g, 0, none⟩ : Addr).add q) = some c ∧ Rel w I x c := fun q x hx => by
    obtain ⟨c, hc1, hc2⟩ := AV.rels_get hos q x.av (by rw [List.getElem?_map, hx]; rfl)
    refine ⟨c, ?_, D.av_rel' hc2⟩
    exact ho.cells (g := g) rfl q c hc1
   let css : Nat → Nat → Value := fun j u => (w.cell? ((⟨g, 0, none⟩ : Addr).add (j * sz + u))).getD undef
   have hq : ∀ (j u : Nat) (r : List D) (x : D), rows[j]? = some r → r[u]? = some x → rows.flatten[j * sz + u]? = some x := fun j u r x hr hx => by
    have hu : u < sz := by
     have := (List.getElem?_eq_some_iff.1 hx).1
     rwa [hsz r (List.mem_of_getElem? hr)] at this
    rw [flatten_get h0 rows hsz, Nat.add_comm, Nat.add_mul_div_right _ _ h0, Nat.add_mul_mod_self_right, Nat.div_eq_of_lt hu, Nat.mod_eq_of_lt hu, Nat.zero_add, hr]
    exact hx
   refine .l sz eb rows ⟨g, 0, none⟩ cap css (.inr rfl) hnc hcm hb hsz (fun j u r x hr hx => ?_) (fun j u r x hr hx => ?_)
   · obtain ⟨c, hc1, _⟩ := hcell _ x (hq j u r x hr hx)
     simp only [css, hc1, Option.getD_some]
   · obtain ⟨c, hc1, hc2⟩ := hcell _ x (hq j u r x hr hx)
     simp only [css, hc1, Option.getD_some]
     exact hc2.mono (fun _ _ => rfl) fun _ h => .inl h

theorem Rel.len_le {w : World} {I : Nat → Prop} {sz eb : Nat} {rows : List (List D)} {v : Value} (h : Rel w I (.l sz eb rows) v) : rows.length * eb ≤ 140737488355328 ∧ ∀ r ∈ rows, r.length = sz := by
 cases h with
 | nil => exact ⟨by simp, by simp⟩
 | emp => exact ⟨by simp, by simp⟩
 | l _ _ _ _ _ _ _ _ _ hb hsz => exact ⟨hb, hsz⟩

/-- A slice that came in is no longer than memory lets. -/
theorem J_fact {x : Code} {t sz eb : Nat} {rows : List (List D)} (ht : get ρ t = .d (.l sz eb rows)) (hj : rows.length * eb ≤ 140737488355328 → J k x Q ρ h) : J k x Q ρ h :=
 fun I a w h1 h2 h3 => hj (Rel.len_le (rel_as (h2.2 t) ht)).1 I a w h1 h2 h3
theorem JL_fact {t sz eb : Nat} {rows : List (List D)} (ht : get ρ t = .d (.l sz eb rows)) (hj : rows.length * eb ≤ 140737488355328 → JL k ops l Q ρ h) : JL k ops l Q ρ h :=
 fun I a w h1 h2 h3 => hj (Rel.len_le (rel_as (h2.2 t) ht)).1 I a w h1 h2 h3

/-! ### Literals of slices -/
theorem fold_set : ∀ (us : List Value) (j : Nat) (cs : Array Value) (pre post : List Value), cs.toList = pre ++ post → us.length ≤ post.length → ((us.zipIdx j).foldl (fun (cs : Array Value) (p : Value × Nat) => cs.setIfInBounds (pre.length - j + p.2) p.1) cs).toList = pre ++ us ++ post.drop us.length ∨ pre.length < j
 | [], _, cs, pre, post, h, _ => .inl (by simp [h])
 | u :: us, j, cs, pre, post, h, hl => by
   by_cases hj : pre.length < j
   · exact .inr hj
   refine .inl ?_
   match post, hl with
   | q :: post, hl =>
     have ih := fold_set us (j + 1) (cs.setIfInBounds pre.length u) (pre ++ [u]) post (by simp [h]) (by simpa using hl)
     rcases ih with ih | ih
     · have e : ∀ (p : Value × Nat), (pre ++ [u]).length - (j + 1) + p.2 = pre.length - j + p.2 := fun p => by simp
       simp only [e] at ih
       have e2 : pre.length - j + j = pre.length := by omega
       simp only [List.zipIdx_cons, List.foldl_cons, e2]
       rw [ih]; simp
     · simp at ih; omega

theorem fill_seq {sz : Nat} : ∀ (vs : List Value) (j : Nat) (cs : Array Value) (pre post : List Value), (∀ v ∈ vs, v.cells.size = sz) → cs.toList = pre ++ post → pre.length = j * sz → post.length = vs.length * sz →
 ∃ cs', Instr.fill (fun i => some (i * sz, sz)) cs ((vs.zipIdx j).map fun p => (p.2, p.1)) = some cs' ∧ cs'.toList = pre ++ vs.flatMap fun v => v.cells.toList
 | [], _, cs, pre, post, _, h, _, hp => ⟨cs, rfl, by have : post = [] := List.eq_nil_of_length_eq_zero (by simpa using hp); simp [h, this]⟩
 | v :: vs, j, cs, pre, post, hs, h, hpre, hp => by
   have hv : v.cells.size = sz := hs v (by simp)
   have hsize : cs.size = pre.length + post.length := by rw [← Array.length_toList, h, List.length_append]
   have hle : v.cells.toList.length ≤ post.length := by rw [hp, List.length_cons, Nat.succ_mul]; simp [hv]
   have hf := fold_set v.cells.toList 0 cs pre post h hle
   rcases hf with hf | hf
   case inr => omega
   simp only [Nat.sub_zero] at hf
   obtain ⟨cs', h1, h2⟩ := fill_seq vs (j + 1) ((v.cells.toList.zipIdx).foldl (fun (cs : Array Value) (p : Value × Nat) => cs.setIfInBounds (pre.length + p.2) p.1) cs) (pre ++ v.cells.toList) (post.drop v.cells.toList.length)
    (fun u hu => hs u (by simp [hu])) (by rw [hf]) (by simp [hpre, hv, Nat.succ_mul]) (by rw [List.length_drop, hp, List.length_cons, Nat.succ_mul]; simp [hv])
   refine ⟨cs', ?_, by rw [h2]; simp⟩
   have hb : (v.cells.size ≠ sz || j * sz + v.cells.size > cs.size) = false := by
    have : ¬ (j * sz + v.cells.size > cs.size) := by
     rw [hsize, hpre]
     have : v.cells.toList.length = v.cells.size := by simp
     omega
    exact Bool.or_eq_false_iff.2 ⟨by simp [hv], decide_eq_false this⟩
   simp only [List.zipIdx_cons, List.map_cons, Instr.fill, hb, Bool.false_eq_true, if_false]
   rw [← hpre, ← h1]
   congr 1
   rw [← Array.foldl_toList, Array.toList_zipIdx]

theorem evs_data {n : Nat} {w : World} {I : Nat → Prop} {ρ : Env} {a : Act} (f : SF n w I ρ a) : ∀ (xs : List Operand) (rows : List (List D)), xs.map (fun x => (ev ρ x).cl) = rows.map (·.map D.av) → (∀ x ∈ xs, (ev ρ x).stor = true) →
 AV.rels w I (rows.flatten.map D.av) ((xs.map a.eval).flatMap fun v => v.cells.toList) ∧ ∀ v ∈ xs.map a.eval, ∃ r ∈ rows, v.cells.size = r.length
 | [], [], _, _ => ⟨trivial, by simp⟩
 | x :: xs, r :: rows, h, hs => by
   simp only [List.map_cons, List.cons.injEq] at h
   obtain ⟨i1, i2⟩ := evs_data f xs rows h.2 fun x hx => hs x (by simp [hx])
   have hr := cl_rel (hs x (by simp)) (f.ev x)
   rw [h.1] at hr
   refine ⟨by simpa using AV.rels_append hr i1, fun v hv => ?_⟩
   simp only [List.map_cons, List.mem_cons] at hv
   rcases hv with rfl | hv
   · refine ⟨r, by simp, ?_⟩
     have := AV.rels_length hr
     simpa using this.symm
   · obtain ⟨r', h1, h2⟩ := i2 v hv
     exact ⟨r', by simp [h1], h2⟩

/-- A literal of data. -/
theorem JL_buildSlice {T E : TypeId} {z : Value} {sz eb len : Nat} {parts : Array (Nat × Operand)} {xs : List Operand} {rows : List (List D)} (hT : k.P.underlying T = some (.slice E)) (he : El k.P E z sz eb) (h0 : 0 < sz)
 (hp : parts = ((xs.zipIdx).map fun p => (p.2, p.1)).toArray) (hl : len = xs.length) (hr : xs.map (fun x => (ev ρ x).cl) = rows.map (·.map D.av)) (hs : ∀ x ∈ xs, (ev ρ x).stor = true) (hsz : ∀ r ∈ rows, r.length = sz) (hb : rows.length * eb ≤ 140737488355328) (hc : rows.length * sz ≤ 16777216)
 (hd : ∀ t, dst = some t → t < k.n) (hj : JL k ops l Q (put ρ dst (.d (.l sz eb rows))) h) : JL k ops (⟨dst, .buildSlice T len parts, ty, pos, after, none⟩ :: l) Q ρ h := by
 obtain ⟨i, hi, hz0, hz1, _⟩ := he.get
 have hxl : xs.length = rows.length := by have := congrArg List.length hr; simpa using this
 refine JL_eff rfl hd fun I a w k1 k2 => ?_
 obtain ⟨hrel, hcs⟩ := evs_data k2 xs rows hr hs
 have hsv : ∀ v ∈ xs.map a.eval, v.cells.size = sz := fun v hv => by obtain ⟨r, h1, h2⟩ := hcs v hv; rw [h2]; exact hsz r h1
 let zc : Array Value := if len * sz = 0 then #[] else z.cells
 obtain ⟨cells, hf1, hf2⟩ := fill_seq (sz := sz) (xs.map a.eval) 0 ((Array.range (len * sz)).map (zc[· % zc.size]!)) [] ((Array.range (len * sz)).map (zc[· % zc.size]!)).toList hsv rfl (by simp) (by simp [hl])
 simp only [List.nil_append] at hf2
 have hrun : (Instr.buildSlice T len (parts.map fun (i, x) => (i, a.eval x))).run k.P w = .ok (.slice (some ⟨w.heap.size, 0, none⟩) len len) (w.alloc (.cells cells E)) := by
  have hparts : (parts.map fun (i, x) => (i, a.eval x)).toList = ((xs.map a.eval).zipIdx 0).map fun p => (p.2, p.1) := by
   rw [hp]; simp [List.zipIdx_map]
  have hlt : ¬ len * sz > 2 ^ 24 := by rw [hl, hxl]; omega
  simp only [Instr.buildSlice, Sem.run_bind, run_underlying hT, Result.andThen_ok, sizeOf, typeInfo, run_program, hi, Sem.run_pure, hz1, hlt, if_false, Sem.run_ite, zeroValue, hz0]
  by_cases hzz : len * sz = 0
  · simp only [zc, hzz, if_true] at hf1
    simp only [hzz, if_true, hparts]
    rw [hf1]; simp [newRow]
  · simp only [zc, hzz, if_false] at hf1
    simp only [hzz, if_false, hparts]
    rw [hf1]; simp [newRow]
 have hmono : ∀ b, I b → (w.alloc (.cells cells E)).heap[b]? = w.heap[b]? := fun b hb => Go.RowKit.Below.heap_alloc w _ b (k1.imm b hb).1
 have hok := k1.fresh (.cells cells E) (.cells w.heap.size E (rows.flatten.map D.av)) rfl ⟨cells, heap_alloc_new w _, by rw [hf2]; exact AV.rels_mono hmono (fun _ h => h) hrel⟩
 have hok' := Ok.release (h1 := []) (b := w.heap.size) hok rfl
 refine ⟨.slice (some ⟨w.heap.size, 0, none⟩) rows.length rows.length, w.alloc (.cells cells E), _, .d (.l sz eb rows), _, ?_, hok', (k2.mono hmono fun _ h => .inl h), ?_, hj⟩
 · rw [← hxl, ← hl]
   simp only [execOp, Sem.run_bind, hrun, Result.andThen_ok, Sem.run_pure]
 · have hcell : ∀ q x, rows.flatten[q]? = some x → ∃ c, (w.alloc (.cells cells E)).cell? ((⟨w.heap.size, 0, none⟩ : Addr).add q) = some c ∧ Rel w I x c := fun q x hx => by
    obtain ⟨c, hc1, hc2⟩ := AV.rels_get hrel q x.av (by rw [List.getElem?_map, hx]; rfl)
    refine ⟨c, ?_, D.av_rel' hc2⟩
    rw [Addr.add_lit, World.cell?_alloc_new, Nat.zero_add, ← Array.getElem?_toList, hf2]
    exact hc1
   have hq : ∀ (j u : Nat) (r : List D) (x : D), rows[j]? = some r → r[u]? = some x → rows.flatten[j * sz + u]? = some x := fun j u r x hr hx => by
    have hu : u < sz := by
     have := (List.getElem?_eq_some_iff.1 hx).1
     rwa [hsz r (List.mem_of_getElem? hr)] at this
    rw [flatten_get h0 rows hsz, Nat.add_comm, Nat.add_mul_div_right _ _ h0, Nat.add_mul_mod_self_right, Nat.div_eq_of_lt hu, Nat.mod_eq_of_lt hu, Nat.zero_add, hr]
    exact hx
   refine .l sz eb rows ⟨w.heap.size, 0, none⟩ rows.length (fun j u => ((w.alloc (.cells cells E)).cell? ((⟨w.heap.size, 0, none⟩ : Addr).add (j * sz + u))).getD undef) (.inr rfl) (Nat.le_refl _) ?_ hb hsz (fun j u r x hr hx => ?_) (fun j u r x hr hx => ?_)
   · have : rows.length ≤ rows.length * sz := Nat.le_mul_of_pos_right _ h0
     simp only [maxLen]; omega
   · obtain ⟨c, hc1, _⟩ := hcell _ x (hq j u r x hr hx)
     simp only [hc1, Option.getD_some]
   · obtain ⟨c, hc1, hc2⟩ := hcell _ x (hq j u r x hr hx)
     simp only [hc1, Option.getD_some]
     exact hc2.mono hmono fun _ h => .inl h
end

/-! ### Cuts -/
section
variable {P : Program} {G : List (Nat × List D)} {ρ : Env} {h : H} {dst : Option Tmp} {ty : TypeId} {pos : String} {after : Array Edge} {g : Option (Nat × Bool)}

theorem Rel.cut {w : World} {I : Nat → Prop} {sz eb a b cap : Nat} {rows : List (List D)} {ad : Option Addr} (h : Rel w I (.l sz eb rows) (.slice ad rows.length cap)) (h1 : a ≤ b) (h2 : b ≤ rows.length) :
 Rel w I (.l sz eb ((rows.drop a).take (b - a))) (.slice (if cap = a then ad else ad.map (·.add (a * sz))) (b - a) (cap - a)) := by
 generalize hv : Value.slice ad rows.length cap = v at h
 cases h with
 | nil =>
   cases hv
   have ha : a = 0 := by simp at h2; omega
   have hb : b = 0 := by simpa using h2
   subst ha; subst hb
   exact .nil sz eb
 | emp _ _ ad0 =>
   cases hv
   have ha : a = 0 := by simp at h2; omega
   have hb : b = 0 := by simpa using h2
   subst ha; subst hb
   exact .emp sz eb ad0
 | l _ _ _ ad0 cap0 css hI hcap hm hb hsz hc hr =>
   cases hv
   have hlen : ((rows.drop a).take (b - a)).length = b - a := by rw [List.length_take, List.length_drop]; omega
   have hbnd : ((rows.drop a).take (b - a)).length * eb ≤ 140737488355328 := Nat.le_trans (Nat.mul_le_mul_right eb (by rw [hlen]; omega)) hb
   have hszs : ∀ r ∈ (rows.drop a).take (b - a), r.length = sz := fun r hr => hsz r (List.mem_of_mem_drop (List.mem_of_mem_take hr))
   have hget : ∀ (j : Nat) (r : List D), ((rows.drop a).take (b - a))[j]? = some r → rows[a + j]? = some r := fun j r hj => by
    rw [List.getElem?_take] at hj
    split at hj
    · rwa [List.getElem?_drop] at hj
    · cases hj
   by_cases hca : cap = a
   · have h0 : (rows.drop a).take (b - a) = [] := List.eq_nil_of_length_eq_zero (by rw [hlen]; omega)
     have hba : b - a = 0 := by omega
     rw [if_pos hca, h0, hba]
     exact .l sz eb [] ad0 _ css hI (Nat.zero_le _) (by omega) (by simp) (by simp) (by simp) (by simp)
   · rw [if_neg hca]
     have := Rel.l (w := w) (I := I) sz eb ((rows.drop a).take (b - a)) (ad0.add (a * sz)) (cap - a) (fun j u => css (a + j) u) (by rw [addr_block]; exact hI) (by rw [hlen]; omega) (by omega) hbnd hszs
      (fun j u r x hj hx => by rw [Addr.add_add, ← Nat.add_assoc, ← Nat.add_mul]; exact hc _ u r x (hget j r hj) hx) (fun j u r x hj hx => hr _ u r x (hget j r hj) hx)
     rw [hlen] at this
     exact this

theorem pure_slice {T E : TypeId} {x lo hi : Operand} {sz eb : Nat} {rows : List (List D)} {m n : Int} {z : Value} {eb' : Nat} (hT : P.underlying T = some (.slice E)) (hE : El P E z sz eb') (hx : ev ρ x = .d (.l sz eb rows)) (hlo : ev ρ lo = .int m) (hhi : ev ρ hi = .int n)
 (h0 : 0 ≤ m) (h1 : m ≤ n) (h2 : n ≤ rows.length) : Pure P G ⟨dst, .slice T x (some lo) (some hi) none, ty, pos, after, g⟩ ρ h (.d (.l sz eb ((rows.drop m.toNat).take (n.toNat - m.toNat)))) :=
 pure_free fun w I _ a hs => by
  obtain ⟨i, hE, _, hsz, _⟩ := hE.get
  have e1 := rel_as (hs.ev x) hx
  have e2 := rel_val (hs.ev lo) hlo
  have e3 := rel_val (hs.ev hi) hhi
  obtain ⟨ad, cap, hv, hcap⟩ : ∃ ad cap, a.eval x = .slice ad rows.length cap ∧ rows.length ≤ cap := by
   generalize a.eval x = v at e1
   cases e1 with
   | nil => exact ⟨none, 0, rfl, Nat.le_refl _⟩
   | emp _ _ ad => exact ⟨some ad, 0, rfl, Nat.le_refl _⟩
   | l _ _ _ ad cap css hI hcap => exact ⟨some ad, cap, rfl, hcap⟩
  rw [hv] at e1
  refine ⟨_, Rel.cut (a := m.toNat) (b := n.toNat) e1 (by omega) (by omega), fun w' => ?_⟩
  have b1 : 0 ≤ n ∧ n ≤ (cap : Int) := by omega
  have b2 : 0 ≤ m ∧ m ≤ (n.toNat : Int) := by omega
  simp [execOp, hv, e2, e3, Instr.sliceAt, run_underlying hT, Instr.slice, Instr.sliceBounds, Instr.sliceBound, asIntOf, b1, b2, sizeOf, typeInfo, hE, hsz]
  intro hc; omega

theorem pure_slice_from {T E : TypeId} {x lo : Operand} {sz eb : Nat} {rows : List (List D)} {m : Int} {z : Value} {eb' : Nat} (hT : P.underlying T = some (.slice E)) (hE : El P E z sz eb') (hx : ev ρ x = .d (.l sz eb rows)) (hlo : ev ρ lo = .int m)
 (h0 : 0 ≤ m) (h1 : m ≤ rows.length) : Pure P G ⟨dst, .slice T x (some lo) none none, ty, pos, after, g⟩ ρ h (.d (.l sz eb (rows.drop m.toNat))) :=
 pure_free fun w I _ a hs => by
  obtain ⟨i, hE, _, hsz, _⟩ := hE.get
  have e1 := rel_as (hs.ev x) hx
  have e2 := rel_val (hs.ev lo) hlo
  obtain ⟨ad, cap, hv, hcap⟩ : ∃ ad cap, a.eval x = .slice ad rows.length cap ∧ rows.length ≤ cap := by
   generalize a.eval x = v at e1
   cases e1 with
   | nil => exact ⟨none, 0, rfl, Nat.le_refl _⟩
   | emp _ _ ad => exact ⟨some ad, 0, rfl, Nat.le_refl _⟩
   | l _ _ _ ad cap css hI hcap => exact ⟨some ad, cap, rfl, hcap⟩
  rw [hv] at e1
  have hc := Rel.cut (a := m.toNat) (b := rows.length) e1 (by omega) (Nat.le_refl _)
  rw [List.take_of_length_le (by rw [List.length_drop]; omega)] at hc
  refine ⟨_, hc, fun w' => ?_⟩
  have b2 : 0 ≤ m ∧ m ≤ (rows.length : Int) := by omega
  simp [execOp, hv, e2, Instr.sliceAt, run_underlying hT, Instr.slice, Instr.sliceBounds, Instr.sliceBound, asIntOf, b2, sizeOf, typeInfo, hE, hsz]

theorem pure_slice_to {T E : TypeId} {x hi : Operand} {sz eb : Nat} {rows : List (List D)} {n : Int} {z : Value} {eb' : Nat} (hT : P.underlying T = some (.slice E)) (hE : El P E z sz eb') (hx : ev ρ x = .d (.l sz eb rows)) (hhi : ev ρ hi = .int n)
 (h0 : 0 ≤ n) (h2 : n ≤ rows.length) : Pure P G ⟨dst, .slice T x none (some hi) none, ty, pos, after, g⟩ ρ h (.d (.l sz eb (rows.take n.toNat))) :=
 pure_free fun w I _ a hs => by
  obtain ⟨i, hE, _, _, _⟩ := hE.get
  have e1 := rel_as (hs.ev x) hx
  have e3 := rel_val (hs.ev hi) hhi
  obtain ⟨ad, cap, hv, hcap⟩ : ∃ ad cap, a.eval x = .slice ad rows.length cap ∧ rows.length ≤ cap := by
   generalize a.eval x = v at e1
   cases e1 with
   | nil => exact ⟨none, 0, rfl, Nat.le_refl _⟩
   | emp _ _ ad => exact ⟨some ad, 0, rfl, Nat.le_refl _⟩
   | l _ _ _ ad cap css hI hcap => exact ⟨some ad, cap, rfl, hcap⟩
  rw [hv] at e1
  have hc := Rel.cut (a := 0) (b := n.toNat) e1 (Nat.zero_le _) (by omega)
  simp only [List.drop_zero, Nat.sub_zero, Nat.zero_mul] at hc
  refine ⟨_, hc, fun w' => ?_⟩
  have b1 : 0 ≤ n ∧ n ≤ (cap : Int) := by omega
  simp [execOp, hv, e3, Instr.sliceAt, run_underlying hT, Instr.slice, Instr.sliceBounds, Instr.sliceBound, asIntOf, b1, sizeOf, typeInfo, hE]
end
end Go.Av
namespace Go.Av
open Go
set_option linter.unusedVariables false
set_option linter.unusedSimpArgs false

section
variable {k : Kx} {Q : Exit → Env → H → Prop} {N : Env → H → Prop} {ρ ρ' : Env} {h h' : H} {ops : Array Oper} {l : List Oper} {d : Nat} {op : Op} {ty : TypeId} {pos : String} {after : Array Edge} {id id' : Nat} {ch : List PanicEntry}

theorem blt {a b : Nat} (h : Nat.blt a b = true) : a < b := Nat.le_of_ble_eq_true h
theorem tq_normal (h1 : N ρ h) : thenQ N Q .normal ρ h := h1
theorem tq_ret (h1 : Q .ret ρ h) : thenQ N Q .ret ρ h := h1
theorem tq_exit (h1 : Q (.exit id) ρ h) : thenQ N Q (.exit id) ρ h := h1
theorem tq_panic (h1 : Q (.panic ch) ρ h) : thenQ N Q (.panic ch) ρ h := h1
theorem bq_normal (h1 : Q .normal ρ h) : blockQ id Q .normal ρ h := h1
theorem bq_ret (h1 : Q .ret ρ h) : blockQ id Q .ret ρ h := h1
theorem bq_panic (h1 : Q (.panic ch) ρ h) : blockQ id Q (.panic ch) ρ h := h1
theorem bq_exit (h1 : Q .normal ρ h) : blockQ id Q (.exit id) ρ h := by simp only [blockQ, if_true]; exact h1
theorem bq_exit' (hne : id' ≠ id) (h1 : Q (.exit id') ρ h) : blockQ id Q (.exit id') ρ h := by simp only [blockQ, if_neg hne]; exact h1

theorem jp {r : AV} (hp : Pure k.P k.c.G ⟨some d, op, ty, pos, after, none⟩ ρ h r) (hd : Nat.blt d k.n = true) (hj : JL k ops l Q ((d, r) :: ρ) h) : JL k ops (⟨some d, op, ty, pos, after, none⟩ :: l) Q ρ h :=
 JL_pure hp rfl (fun t ht => by cases ht; exact blt hd) hj
theorem jqp {tn : Nat} {r : AV} (hp : Pure k.P k.c.G ⟨some d, op, ty, pos, after, none⟩ ρ h r) (hd : Nat.blt d k.n = true) (hj : JQ k ops tn l Q ((d, r) :: ρ) h) : JQ k ops (tn + 1) (⟨some d, op, ty, pos, after, none⟩ :: l) Q ρ h :=
 JQ_pure hp rfl (fun t ht => by cases ht; exact blt hd) hj
theorem jgy {j dj : Nat} {want : Bool} {oj : Oper} (hj : ops[j]? = some oj) (hdj : oj.dst = some dj) (hr : get ρ dj = .val (.bool want)) (hn : Nat.blt dj k.n = true) (hy : JL k ops (⟨some d, op, ty, pos, after, none⟩ :: l) Q ρ h) : JL k ops (⟨some d, op, ty, pos, after, some (j, want)⟩ :: l) Q ρ h :=
 JL_guard_yes rfl hj hdj hr (blt hn) hy
theorem jgn {j dj : Nat} {want b : Bool} {oj : Oper} (hj : ops[j]? = some oj) (hdj : oj.dst = some dj) (hr : get ρ dj = .val (.bool b)) (hn : Nat.blt dj k.n = true) (hd : Nat.blt d k.n = true) (hb : b = !want) (hno : JL k ops l Q ((d, .val undef) :: ρ) h) : JL k ops (⟨some d, op, ty, pos, after, some (j, want)⟩ :: l) Q ρ h :=
 JL_guard_no rfl hj hdj hr (blt hn) (fun t ht => by cases ht; exact blt hd) hb hno
theorem jqy {tn : Nat} {j dj : Nat} {want : Bool} {oj : Oper} (hj : ops[j]? = some oj) (hdj : oj.dst = some dj) (hr : get ρ dj = .val (.bool want)) (hn : Nat.blt dj k.n = true) (hy : JQ k ops (tn + 1) (⟨some d, op, ty, pos, after, none⟩ :: l) Q ρ h) : JQ k ops (tn + 1) (⟨some d, op, ty, pos, after, some (j, want)⟩ :: l) Q ρ h :=
 JQ_guard_yes rfl hj hdj hr (blt hn) hy
theorem jqn {tn : Nat} {j dj : Nat} {want b : Bool} {oj : Oper} (hj : ops[j]? = some oj) (hdj : oj.dst = some dj) (hr : get ρ dj = .val (.bool b)) (hn : Nat.blt dj k.n = true) (hd : Nat.blt d k.n = true) (hb : b = !want) (hno : JQ k ops tn l Q ((d, .val undef) :: ρ) h) : JQ k ops (tn + 1) (⟨some d, op, ty, pos, after, some (j, want)⟩ :: l) Q ρ h :=
 JQ_guard_no rfl hj hdj hr (blt hn) (fun t ht => by cases ht; exact blt hd) hb hno

theorem jgu {j dj : Nat} {want : Bool} {oj : Oper} (hj : ops[j]? = some oj) (hdj : oj.dst = some dj) (hr : get ρ dj = .val undef) (hd : Nat.blt d k.n = true) (hno : JL k ops l Q ((d, .val undef) :: ρ) h) : JL k ops (⟨some d, op, ty, pos, after, some (j, want)⟩ :: l) Q ρ h :=
 JL_guard_un rfl hj hdj hr (fun t ht => by cases ht; exact blt hd) hno
theorem jqu {tn : Nat} {j dj : Nat} {want : Bool} {oj : Oper} (hj : ops[j]? = some oj) (hdj : oj.dst = some dj) (hr : get ρ dj = .val undef) (hd : Nat.blt d k.n = true) (hno : JQ k ops tn l Q ((d, .val undef) :: ρ) h) : JQ k ops (tn + 1) (⟨some d, op, ty, pos, after, some (j, want)⟩ :: l) Q ρ h :=
 JQ_guard_un rfl hj hdj hr (fun t ht => by cases ht; exact blt hd) hno
theorem len_nil : ([] : List Oper).length = 0 := rfl
theorem len_cons {o : Oper} {l : List Oper} {m : Nat} (h : l.length = m) : (o :: l).length = m + 1 := by rw [List.length_cons, h]
/-- A test, both ways. -/
def CB (b : Bool) (A B : Prop) : Prop := (b = true → A) ∧ (b = false → B)
theorem cb_true {A B : Prop} (h1 : A) : CB true A B := ⟨fun _ => h1, fun h => by cases h⟩
theorem cb_false {A B : Prop} (h1 : B) : CB false A B := ⟨(fun h => by cases h), fun _ => h1⟩
theorem cb_dec {p : Prop} [Decidable p] {A B : Prop} (h1 : p → A) (h2 : ¬ p → B) : CB (decide p) A B := ⟨fun h => h1 (of_decide_eq_true h), fun h => h2 (of_decide_eq_false h)⟩
theorem cb_not {b : Bool} {A B : Prop} (h1 : CB b B A) : CB (!b) A B := ⟨fun h => h1.2 (by simpa using h), fun h => h1.1 (by simpa using h)⟩
theorem cb_split {b : Bool} {A B : Prop} (h1 : b = true → A) (h2 : b = false → B) : CB b A B := ⟨h1, h2⟩
theorem JQ_le {tn : Nat} (hle : Env.le ρ ρ') (hj : JQ k ops tn l Q ρ' h) : JQ k ops tn l Q ρ h := fun I a w h1 h2 h3 => hj I a w h1 (h2.le hle) h3
theorem jgt {j dj : Nat} {b : Bool} {oj : Oper} (hj : ops[j]? = some oj) (hdj : oj.dst = some dj) (hr : get ρ dj = .val (.bool b)) (hn : Nat.blt dj k.n = true) (hd : Nat.blt d k.n = true)
 (hb : CB b (JL k ops (⟨some d, op, ty, pos, after, none⟩ :: l) Q ((dj, .bool true) :: ρ) h) (JL k ops l Q ((d, .val undef) :: (dj, .bool false) :: ρ) h)) : JL k ops (⟨some d, op, ty, pos, after, some (j, true)⟩ :: l) Q ρ h := by
 cases b with
 | true => exact JL_le (Env.le_cons (AV.le_of_eq hr) (Env.le_refl _)) (jgy hj hdj (by simp [get]) hn (hb.1 rfl))
 | false => exact JL_le (Env.le_cons (AV.le_of_eq hr) (Env.le_refl _)) (jgn hj hdj (b := false) (by simp [get]) hn hd rfl (hb.2 rfl))
theorem jgf {j dj : Nat} {b : Bool} {oj : Oper} (hj : ops[j]? = some oj) (hdj : oj.dst = some dj) (hr : get ρ dj = .val (.bool b)) (hn : Nat.blt dj k.n = true) (hd : Nat.blt d k.n = true)
 (hb : CB b (JL k ops l Q ((d, .val undef) :: (dj, .bool true) :: ρ) h) (JL k ops (⟨some d, op, ty, pos, after, none⟩ :: l) Q ((dj, .bool false) :: ρ) h)) : JL k ops (⟨some d, op, ty, pos, after, some (j, false)⟩ :: l) Q ρ h := by
 cases b with
 | true => exact JL_le (Env.le_cons (AV.le_of_eq hr) (Env.le_refl _)) (jgn hj hdj (b := true) (by simp [get]) hn hd rfl (hb.1 rfl))
 | false => exact JL_le (Env.le_cons (AV.le_of_eq hr) (Env.le_refl _)) (jgy hj hdj (by simp [get]) hn (hb.2 rfl))
theorem jqt {tn : Nat} {j dj : Nat} {b : Bool} {oj : Oper} (hj : ops[j]? = some oj) (hdj : oj.dst = some dj) (hr : get ρ dj = .val (.bool b)) (hn : Nat.blt dj k.n = true) (hd : Nat.blt d k.n = true)
 (hb : CB b (JQ k ops (tn + 1) (⟨some d, op, ty, pos, after, none⟩ :: l) Q ((dj, .bool true) :: ρ) h) (JQ k ops tn l Q ((d, .val undef) :: (dj, .bool false) :: ρ) h)) : JQ k ops (tn + 1) (⟨some d, op, ty, pos, after, some (j, true)⟩ :: l) Q ρ h := by
 cases b with
 | true => exact JQ_le (Env.le_cons (AV.le_of_eq hr) (Env.le_refl _)) (jqy hj hdj (by simp [get]) hn (hb.1 rfl))
 | false => exact JQ_le (Env.le_cons (AV.le_of_eq hr) (Env.le_refl _)) (jqn hj hdj (b := false) (by simp [get]) hn hd rfl (hb.2 rfl))
theorem jqf {tn : Nat} {j dj : Nat} {b : Bool} {oj : Oper} (hj : ops[j]? = some oj) (hdj : oj.dst = some dj) (hr : get ρ dj = .val (.bool b)) (hn : Nat.blt dj k.n = true) (hd : Nat.blt d k.n = true)
 (hb : CB b (JQ k ops tn l Q ((d, .val undef) :: (dj, .bool true) :: ρ) h) (JQ k ops (tn + 1) (⟨some d, op, ty, pos, after, none⟩ :: l) Q ((dj, .bool false) :: ρ) h)) : JQ k ops (tn + 1) (⟨some d, op, ty, pos, after, some (j, false)⟩ :: l) Q ρ h := by
 cases b with
 | true => exact JQ_le (Env.le_cons (AV.le_of_eq hr) (Env.le_refl _)) (jqn hj hdj (b := true) (by simp [get]) hn hd rfl (hb.1 rfl))
 | false => exact JQ_le (Env.le_cons (AV.le_of_eq hr) (Env.le_refl _)) (jqy hj hdj (by simp [get]) hn (hb.2 rfl))
theorem jcond {t : Nat} {x y : Code} {b : Bool} (hc : get ρ t = .val (.bool b)) (hb : CB b (J k x Q ((t, .bool true) :: ρ) h) (J k y Q ((t, .bool false) :: ρ) h)) : J k (.cond (.tmp t) x y) Q ρ h :=
 J_cond (o := .tmp t) hc (fun e => J_le (Env.le_cons (AV.le_of_eq (by rw [hc, e])) (Env.le_refl _)) (hb.1 e)) (fun e => J_le (Env.le_cons (AV.le_of_eq (by rw [hc, e])) (Env.le_refl _)) (hb.2 e))

end

def getO : Env → Nat → Option AV
 | [], _ => none
 | (k, v) :: r, t => bif Nat.beq k t then some v else getO r t
def evO (ρ : Env) : Operand → Option AV
 | .tmp t => getO ρ t
 | .const v => some (.val v)
 | .global g => some (.val (.pointer (some ⟨g, 0, none⟩)))
 | .func f => some (.val (.func (.func f) #[] #[]))
theorem get_of_getO : ∀ {ρ : Env} {t : Nat} {r : AV}, getO ρ t = some r → get ρ t = r
 | (k, v) :: ρ, t, r, h => by
   simp only [getO] at h
   simp only [get]
   cases hb : Nat.beq k t with
   | true => rw [hb] at h; simpa using h
   | false => rw [hb] at h; exact get_of_getO h
theorem ev_of_evO {ρ : Env} {x : Operand} {r : AV} (h : evO ρ x = some r) : ev ρ x = r := by
 cases x with
 | tmp t => exact get_of_getO h
 | const v => cases h; rfl
 | global g => cases h; rfl
 | func f => cases h; rfl

section
variable {k : Kx} {Q : Exit → Env → H → Prop} {ρ : Env} {h : H} {ops : Array Oper} {l : List Oper}
theorem jfact {α : Type} {x : Code} {t sz eb : Nat} {f : α → List D} {xs : List α} (ht : get ρ t = .d (.l sz eb (xs.map f))) (hj : xs.length * eb ≤ 140737488355328 → J k x Q ρ h) : J k x Q ρ h :=
 J_fact ht fun hl => hj (by rwa [List.length_map] at hl)
theorem jlfact {α : Type} {t sz eb : Nat} {f : α → List D} {xs : List α} (ht : get ρ t = .d (.l sz eb (xs.map f))) (hj : xs.length * eb ≤ 140737488355328 → JL k ops l Q ρ h) : JL k ops l Q ρ h :=
 JL_fact ht fun hl => hj (by rwa [List.length_map] at hl)
end

section
variable {Q : AE → H → Prop} {ρ : Env} {h : H} {a b c : Nat} {x y z : AV} {e : Exit}
def retE (e : Exit) : Bool := match e with | .ret => true | .normal => true | _ => false
theorem rq_of {ts : List Tmp} (he : retE e = true) (hq : Q (.ret (resAV ρ ts)) h) : retQ ts Q e ρ h := by cases e <;> first | exact hq | cases he
theorem rq0 (he : retE e = true) (hq : Q (.ret (.tup [])) h) : retQ [] Q e ρ h := rq_of he hq
theorem rq1 (he : retE e = true) (h1 : getO ρ a = some x) (hq : Q (.ret x) h) : retQ [a] Q e ρ h := rq_of he (by simp only [resAV, get_of_getO h1]; exact hq)
theorem rq2 (he : retE e = true) (h1 : getO ρ a = some x) (h2 : getO ρ b = some y) (hq : Q (.ret (.tup [x, y])) h) : retQ [a, b] Q e ρ h := rq_of he (by simp only [resAV, List.map_cons, List.map_nil, get_of_getO h1, get_of_getO h2]; exact hq)
theorem rq3 (he : retE e = true) (h1 : getO ρ a = some x) (h2 : getO ρ b = some y) (h3 : getO ρ c = some z) (hq : Q (.ret (.tup [x, y, z])) h) : retQ [a, b, c] Q e ρ h := rq_of he (by simp only [resAV, List.map_cons, List.map_nil, get_of_getO h1, get_of_getO h2, get_of_getO h3]; exact hq)
theorem ret_eq {r r' : AV} (hr : r = r') : AE.ret r = AE.ret r' ∧ ([] : H) = [] := ⟨by rw [hr], rfl⟩
end

theorem tup3 {a b c a' b' c' : Bool} (h1 : a = a') (h2 : b = b') (h3 : c = c') : AV.tup [.bool a, .bool b, .bool c] = AV.tup [.bool a', .bool b', .bool c'] := by rw [h1, h2, h3]
def evsO (ρ : Env) : List Operand → Option (List AV)
 | [] => some []
 | x :: xs => (evO ρ x).bind fun r => (evsO ρ xs).bind fun rs => some (r :: rs)
theorem evs_of_evsO {ρ : Env} : ∀ {xs : List Operand} {rs : List AV}, evsO ρ xs = some rs → xs.map (ev ρ) = rs
 | [], rs, h => by cases h; rfl
 | x :: xs, rs, h => by
   simp only [evsO] at h
   cases h1 : evO ρ x with
   | none => rw [h1] at h; cases h
   | some r =>
     cases h2 : evsO ρ xs with
     | none => rw [h1, h2] at h; cases h
     | some rs' =>
       rw [h1, h2] at h
       cases h
       simp [ev_of_evO h1, evs_of_evsO h2]
theorem AV.le_int {x : AV} {a b : Int} (hx : x = .int a) (hab : a = b) : AV.le x (.int b) := AV.le_of_eq (by rw [hx, hab])
theorem AV.le_bool {x : AV} {a b : Bool} (hx : x = .bool a) (hab : a = b) : AV.le x (.bool b) := AV.le_of_eq (by rw [hx, hab])
theorem AV.le_rows {x : AV} {sz eb : Nat} {a b : List (List D)} (hx : x = .d (.l sz eb a)) (hab : a = b) : AV.le x (.d (.l sz eb b)) := AV.le_of_eq (by rw [hx, hab])

section
variable {k : Kx} {Q : Exit → Env → H → Prop} {ρ : Env} {h hc hr : H} {ops : Array Oper} {l : List Oper} {d : Nat} {dst : Option Tmp} {ty : TypeId} {pos : String} {after : Array Edge}
theorem call0 {f : FuncId} {xs : Array Operand} {ats : Array TypeId} {args : List AV} {r : AV} (hargs : evsO ρ xs.toList = some args) (hcal : Cal k.P f) (hac : ACr k.P k.c.G f args r) (hd : Nat.blt d k.n = true) (hret : JL k ops l Q ((d, r) :: ρ) h) :
 JL k ops (⟨some d, .call { callee := .value (.func f), args := xs, argTypes := ats }, ty, pos, after, none⟩ :: l) Q ρ h :=
 JL_call0 hcal hac (by rw [evs_of_evsO hargs]; exact AVs.le_refl _) (fun t ht => by cases ht; exact blt hd) hret
theorem qcall {tn : Nat} {f : FuncId} {xs : Array Operand} {ats : Array TypeId} {args : List AV} {v : Value} (hargs : evsO ρ xs.toList = some args) (hcal : Cal k.P f) (hac : ACr k.P k.c.G f args (.val v)) (hd : Nat.blt d k.n = true) (hret : JQ k ops tn l Q ((d, .val v) :: ρ) h) :
 JQ k ops (tn + 1) (⟨some d, .call { callee := .value (.func f), args := xs, argTypes := ats }, ty, pos, after, none⟩ :: l) Q ρ h :=
 JQ_call hcal hac (by rw [evs_of_evsO hargs]; exact AVs.le_refl _) (fun t ht => by cases ht; exact blt hd) hret
theorem callw {f : FuncId} {xs : Array Operand} {ats : Array TypeId} {args : List AV} {R : AE → H → Prop} (hargs : evsO ρ xs.toList = some args) (hcal : Cal k.P f) (hs : h = hc ++ hr) (hac : AC k.P k.c.G f args hc R) (hd : Nat.blt d k.n = true)
 (hret : ∀ r h', R (.ret r) h' → JL k ops l Q ((d, r) :: ρ) (h' ++ hr)) (hpan : ∀ ch h', R (.pan ch) h' → Q (.panic ch) ρ (h' ++ hr)) :
 JL k ops (⟨some d, .call { callee := .value (.func f), args := xs, argTypes := ats }, ty, pos, after, none⟩ :: l) Q ρ h :=
 JL_call hcal hac (by rw [evs_of_evsO hargs]; exact AVs.le_refl _) hs (fun t ht => by cases ht; exact blt hd) hret hpan
end

section
variable {P : Program} {G : List (Nat × List D)} {ρ : Env} {h : H} {dst : Option Tmp} {ty : TypeId} {pos : String} {after : Array Edge} {g : Option (Nat × Bool)}
theorem pu_move {x : Operand} {r : AV} (hx : evO ρ x = some r) : Pure P G ⟨dst, .move x, ty, pos, after, g⟩ ρ h r := pure_move (ev_of_evO hx)
theorem pu_assign {x : Operand} {r : AV} (hx : evO ρ x = some r) : Pure P G ⟨dst, .assign x, ty, pos, after, g⟩ ρ h r := pure_assign (ev_of_evO hx)
theorem pu_pick_true {c x y : Operand} {r : AV} (hc : ev ρ c = .val (.bool true)) (hx : evO ρ x = some r) : Pure P G ⟨dst, .pick c x y, ty, pos, after, g⟩ ρ h r := pure_pick_true hc (ev_of_evO hx)
theorem pu_pick_false {c x y : Operand} {r : AV} (hc : ev ρ c = .val (.bool false)) (hx : evO ρ y = some r) : Pure P G ⟨dst, .pick c x y, ty, pos, after, g⟩ ρ h r := pure_pick_false hc (ev_of_evO hx)
theorem pu_len {α : Type} {T E : TypeId} {x : Operand} {sz eb : Nat} {f : α → List D} {xs : List α} (hT : P.underlying T = some (.slice E)) (hx : ev ρ x = .d (.l sz eb (xs.map f))) : Pure P G ⟨dst, .call { callee := .builtin .len, args := #[x], argTypes := #[T] }, ty, pos, after, g⟩ ρ h (.int xs.length) := by
 have := pure_len (G := G) (h := h) (dst := dst) (ty := ty) (pos := pos) (after := after) (g := g) hT hx
 rwa [List.length_map] at this
/-- An index by a counter. -/
theorem pure_index {α : Type} {T E : TypeId} {x y : Operand} {sz eb : Nat} {f : α → List D} {xs : List α} {n : Nat} {z : Value} {eb' : Nat} (hx : ev ρ x = .d (.l sz eb (xs.map f))) (hy : ev ρ y = .int (n : Int)) (hT : P.underlying T = some (.slice E)) (hE : El P E z sz eb')
 (hn : n < xs.length) : Pure P G ⟨dst, .indexAddr T x y, ty, pos, after, g⟩ ρ h (.pd (f xs[n])) :=
 pure_indexAddr hT hE hx hy (Int.natCast_nonneg n) (by rw [Int.toNat_natCast, List.getElem?_map, List.getElem?_eq_getElem hn]; rfl)
/-- An index by a place and one more. -/
theorem pure_index1 {α : Type} {T E : TypeId} {x y : Operand} {sz eb : Nat} {f : α → List D} {xs : List α} {n : Nat} {z : Value} {eb' : Nat} (hx : ev ρ x = .d (.l sz eb (xs.map f))) (hy : evO ρ y = some (.int ((n : Int) + 1))) (hT : P.underlying T = some (.slice E)) (hE : El P E z sz eb')
 (hn : n + 1 < xs.length) : Pure P G ⟨dst, .indexAddr T x y, ty, pos, after, g⟩ ρ h (.pd (f xs[n + 1])) :=
 pure_index (n := n + 1) hx (ev_of_evO hy) hT hE hn
/-- An index by a number. -/
theorem pure_indexI {α : Type} {T E : TypeId} {x y : Operand} {sz eb : Nat} {f : α → List D} {xs : List α} {n : Int} {z : Value} {eb' : Nat} (hx : ev ρ x = .d (.l sz eb (xs.map f))) (hy : ev ρ y = .int n) (hT : P.underlying T = some (.slice E)) (hE : El P E z sz eb')
 (h0 : 0 ≤ n) (hn : n.toNat < xs.length) : Pure P G ⟨dst, .indexAddr T x y, ty, pos, after, g⟩ ρ h (.pd (f xs[n.toNat])) :=
 pure_indexAddr hT hE hx hy h0 (by rw [List.getElem?_map, List.getElem?_eq_getElem hn]; rfl)
end
end Go.Av
namespace Go.Av
open Go
set_option linter.unusedVariables false
set_option linter.unusedSimpArgs false

def lift2 (k : Kx) (Q : Exit → Env → H → List Deferred → Prop) : Exit → Act → World → Prop := fun e a w =>
 ∃ I ρ h, Ok k.c I h w ∧ SF k.n w I ρ a ∧ Q e ρ h a.defers
/-- As J; what is deferred at the end is told. -/
def J2 (k : Kx) (x : Code) (Q : Exit → Env → H → List Deferred → Prop) (ρ : Env) (h : H) : Prop :=
 ∀ I a w, Ok k.c I h w → SF k.n w I ρ a → a.defers = k.df → x.wp k.P (lift2 k Q) a w
def thenQ2 (k : Kx) (y : Code) (Q : Exit → Env → H → List Deferred → Prop) : Exit → Env → H → List Deferred → Prop
 | .normal, ρ, h, df => J2 { k with df := df } y Q ρ h
 | e, ρ, h, df => Q e ρ h df

section
variable {k : Kx} {Q2 : Exit → Env → H → List Deferred → Prop} {ρ ρ' : Env} {h h' : H}
theorem J2_of {x : Code} (hj : J k x (fun e ρ h => Q2 e ρ h k.df) ρ h) : J2 k x Q2 ρ h := fun I a w h1 h2 h3 =>
 wp_mono (hj I a w h1 h2 h3) fun _ _ _ ⟨I, ρ, h, k1, k2, k3, k4⟩ => ⟨I, ρ, h, k1, k2, by rw [k3]; exact k4⟩
theorem J2_seq {x y : Code} (hj : J2 k x (thenQ2 k y Q2) ρ h) : J2 k (.seq x y) Q2 ρ h := by
 intro I a w h1 h2 h3
 refine wp_seq (wp_mono (hj I a w h1 h2 h3) ?_)
 rintro e a w ⟨I, ρ, h, h1, h2, h4⟩
 cases e with
 | normal => exact h4 I a w h1 h2 rfl
 | _ => exact ⟨I, ρ, h, h1, h2, h4⟩
theorem J2_seq1 {x y : Code} (hj : J k x (fun e ρ h => thenQ2 k y Q2 e ρ h k.df) ρ h) : J2 k (.seq x y) Q2 ρ h := J2_seq (J2_of hj)
theorem tq2_normal {y : Code} {df : List Deferred} (hj : J2 { k with df := df } y Q2 ρ h) : thenQ2 k y Q2 .normal ρ h df := hj
theorem tq2_ret {y : Code} {df : List Deferred} (hj : Q2 .ret ρ h df) : thenQ2 k y Q2 .ret ρ h df := hj
theorem tq2_panic {y : Code} {df : List Deferred} {ch : List PanicEntry} (hj : Q2 (.panic ch) ρ h df) : thenQ2 k y Q2 (.panic ch) ρ h df := hj

/-- defer func() {..}(). -/
theorem J2_defer {id fid : Nat} {d : Nat} {caps : Array Operand} {vs : List Value} {ty ty' : TypeId} {pos pos' : String} {after after' : Array Edge} (hc : caps.toList.map (ev ρ) = vs.map AV.val) (hd : Nat.blt d k.n = true)
 (hq : Q2 .normal ((d, .any) :: ρ) h ({ target := .fn (.func fid) vs.toArray, args := #[] } :: k.df)) :
 J2 k (.region id #[⟨some d, .makeFunc (.func fid) #[] caps, ty, pos, after, none⟩, ⟨none, .defer { callee := .value (.tmp d), args := #[], argTypes := #[] }, ty', pos', after', none⟩] false) Q2 ρ h := by
 intro I a w h1 h2 h3
 refine wp_region_lit ?_
 have hvs : caps.map a.eval = vs.toArray := by
  apply Array.ext'
  have hr := rels_evs h2 caps.toList
  rw [hc] at hr
  have : ∀ (us : List Value) (ws : List Value), AV.rels w I (us.map AV.val) ws → ws = us := by
   intro us
   induction us with
   | nil => intro ws hw; cases ws with
     | nil => rfl
     | cons _ _ => exact hw.elim
   | cons u us ih => intro ws hw; cases ws with
     | nil => exact hw.elim
     | cons v ws => obtain ⟨e1, e2⟩ := hw; rw [ih ws e2]; cases e1; rfl
  simpa using this _ _ hr
 have hdn : d < a.tmps.size := by rw [h2.1]; exact blt hd
 refine wpList_plain rfl fun K hK => ?_
 unfold Oper.wp
 have e1 : (execOp a.eval ⟨some d, .makeFunc (.func fid) #[] caps, ty, pos, after, none⟩).run k.P w = .ok (.value (.func (.func fid) #[] vs.toArray)) w := by
  simp [execOp, Instr.makeFunc, hvs]
 rw [e1]
 refine hK _ _ (wpList_plain rfl fun K hK => ?_)
 unfold Oper.wp
 have e2 : (execOp (a.put (some d) (.func (.func fid) #[] vs.toArray)).eval ⟨none, .defer { callee := .value (.tmp d), args := #[], argTypes := #[] }, ty', pos', after', none⟩).run k.P w = .ok (.defer { target := .fn (.func fid) vs.toArray, args := #[] }) w := by
  simp [execOp, resolve, Act.put, Act.eval, Array.getD, hdn, Deferred.ofValue]
 rw [e2]
 refine hK _ _ ⟨I, (d, .any) :: ρ, h, h1, ?_, ?_⟩
 · exact (h2.put (dst := some d) (fun t ht => by cases ht; exact blt hd) (r := .any) trivial)
 · have : a.defers = k.df := h3
   simpa [Act.put, this] using hq
end

def modeOf : Exit → Option FrameMode
 | .normal => some .returning
 | .ret => some .returning
 | .panic ch => some (.panicking ch)
 | _ => none

/-- What happens behind the body: the deferred calls, the results. -/
def LQ (k : Kx) (fn : Func) (R : Ending → World → Prop) (u : Option FrameMode) (ρ : Env) (h : H) (df : List Deferred) : Prop :=
 ∀ I a w, Ok k.c I h w → SF k.n w I ρ a → ∃ m, u = some m ∧ Leaves k.P fn a.tmps R df m w

theorem AC_ofD {P : Program} {G : List (Nat × List D)} {f : FuncId} {fn : Func} {c : Code} {args : List AV} {h : H} {Q : AE → H → Prop} (n : Nat) (hf : P.funcs[f]? = some fn) (hb : fn.body = some c) (hn : fn.ntmps = n) (ha : args.length ≤ n)
 (hj : ∀ W I, J2 ⟨P, ⟨W, I, blks h, G⟩, n, []⟩ c (fun e ρ h' df => LQ ⟨P, ⟨W, I, blks h, G⟩, n, []⟩ fn (ACpost G W I h Q) (modeOf e) ρ h' df) (argsEnv 0 args) h) : AC P G f args h Q := by
 intro I W vs h1 h2 h3 hG h4
 have hlen := AV.rels_length h4
 refine calls_of_wp_defers hf hb ?_
 have hok : Ok ⟨W, I, blks h, G⟩ I h W :=
  { ent := h1, nd := h2, imm := h3, new := fun b hb => .inl hb, inew := fun b hb => .inl hb, sup := fun b hb => hb, os := rfl, tape := rfl, output := rfl, size := Nat.le_refl _, keep := fun _ _ _ => rfl, glob := hG }
 have hsf : SF n W I (argsEnv 0 args) { tmps := vs.toArray ++ Array.replicate (fn.ntmps - vs.toArray.size) undef, defers := [] } := by
  refine ⟨by simp [hn]; omega, fun t => ?_⟩
  have := get_argsEnv W I args vs 0 t h4
  simp only [Nat.zero_le, if_true, Nat.sub_zero] at this
  have e : (vs.toArray ++ Array.replicate (fn.ntmps - vs.toArray.size) undef).getD t undef = (vs[t]?).getD undef := by
   rw [Array.getD_eq_getD_getElem?, Array.getElem?_append]
   by_cases ht : t < vs.length
   · simp [ht]
   · simp only [List.size_toArray, ht, if_false]
     rw [List.getElem?_eq_none (by omega)]
     simp only [Array.getElem?_replicate]
     split <;> rfl
  rw [e]; exact this
 refine wp_mono (hj W I I _ W hok hsf rfl) ?_
 rintro e a w ⟨I', ρ', h', k1, k2, k4⟩
 obtain ⟨m, hm, hl⟩ := k4 I' a w k1 k2
 cases e with
 | normal => cases hm; exact hl
 | ret => cases hm; exact hl
 | panic ch => cases hm; exact hl
 | exit _ => cases hm
 | goto _ => cases hm
 | outgrown => cases hm

/-- Two results that lie in variables of their own. -/
theorem results_cells2 {P : Program} {fn : Func} {r1 r2 t1 t2 b1 b2 : Nat} {T1 T2 : TypeId} {z1 z2 : Nat × Nat} {v1 v2 : Value} {tmps : Array Value} {w : World} (hr : fn.results = #[.cell r1 t1, .cell r2 t2]) (a1 : isAggB P t1 = some false) (a2 : isAggB P t2 = some false)
 (e1 : tmps.getD r1 undef = .pointer (some ⟨b1, 0, none⟩)) (e2 : tmps.getD r2 undef = .pointer (some ⟨b2, 0, none⟩)) (c1 : w.heap[b1]? = some (.cells #[v1] T1 z1)) (c2 : w.heap[b2]? = some (.cells #[v2] T2 z2)) :
 (results fn tmps).run P w = .ok (.tuple #[v1, v2]) w := by
 have l1 : w.cell? ⟨b1, 0, none⟩ = some v1 := by rw [cell_of_row w b1 0 _ _ _ c1]; rfl
 have l2 : w.cell? ⟨b2, 0, none⟩ = some v2 := by rw [cell_of_row w b2 0 _ _ _ c2]; rfl
 rw [Array.getD_eq_getD_getElem?] at e1 e2
 unfold results
 rw [hr]
 simp [e1, e2, loadVar, run_isAgg a1, run_isAgg a2, run_load, l1, l2, asAddr]

theorem LQ_cells2 {k : Kx} {fn : Func} {Q : AE → H → Prop} {ρ : Env} {h h0 : H} {r1 r2 t1 t2 b1 b2 : Nat} {T1 T2 : TypeId} {x1 x2 : AV} (hr : fn.results = #[.cell r1 t1, .cell r2 t2]) (a1 : isAggB k.P t1 = some false) (a2 : isAggB k.P t2 = some false)
 (e1 : get ρ r1 = .val (.pointer (some ⟨b1, 0, none⟩))) (e2 : get ρ r2 = .val (.pointer (some ⟨b2, 0, none⟩))) (c1 : Ent.cells b1 T1 [x1] ∈ h) (c2 : Ent.cells b2 T2 [x2] ∈ h) (hE : k.c.E = blks h0) {h' : H} (hs : List.Sublist h' h) {y1 y2 : AV} (l1 : AV.le x1 y1) (l2 : AV.le x2 y2) (hq : Q (.ret (.tup [y1, y2])) h') :
 LQ k fn (ACpost k.c.G k.c.W k.c.I0 h0 Q) (some .returning) ρ h [] := by
 intro I a w h1 h2
 refine ⟨_, rfl, ?_⟩
 obtain ⟨cs1, d1, f1⟩ := h1.ent _ c1
 obtain ⟨cs2, d2, f2⟩ := h1.ent _ c2
 obtain ⟨v1, hv1, g1⟩ : ∃ v1, cs1 = #[v1] ∧ AV.rel w I x1 v1 := by
  obtain ⟨l⟩ := cs1
  match l, f1 with
  | [v], ⟨g, _⟩ => exact ⟨v, rfl, g⟩
  | _ :: _ :: _, ⟨_, g⟩ => exact g.elim
 obtain ⟨v2, hv2, g2⟩ : ∃ v2, cs2 = #[v2] ∧ AV.rel w I x2 v2 := by
  obtain ⟨l⟩ := cs2
  match l, f2 with
  | [v], ⟨g, _⟩ => exact ⟨v, rfl, g⟩
  | _ :: _ :: _, ⟨_, g⟩ => exact g.elim
 subst hv1; subst hv2
 refine ⟨_, results_cells2 hr a1 a2 (rel_val (h2.2 r1) e1) (rel_val (h2.2 r2) e2) d1 d2, _, h', I, hq, ?_, ⟨_, rfl, l1 _ _ _ g1, l2 _ _ _ g2, trivial⟩⟩
 have hc : k.c = ⟨k.c.W, k.c.I0, blks h0, k.c.G⟩ := by rw [← hE]
 rw [← hc]
 exact
 { ent := fun e he => h1.ent e (hs.subset he), nd := h1.nd.sublist (blks_sublist hs), imm := fun b hb => ⟨(h1.imm b hb).1, fun hm => (h1.imm b hb).2 ((blks_sublist hs).subset hm)⟩,
   new := fun b hb => h1.new b ((blks_sublist hs).subset hb), inew := h1.inew, sup := h1.sup, os := h1.os, tape := h1.tape, output := h1.output, size := h1.size, keep := h1.keep, glob := h1.glob }

/-- A deferred function's contract. -/
def CD (P : Program) (f : FuncId) (args : Array Value) (u : FrameMode) (h h' : H) (u' : FrameMode) : Prop :=
 ∀ c I w, Ok c I h w → CallsD P f args u w fun e v w' => e = .returned (.tuple #[]) ∧ v = u' ∧ Ok c I h' w' ∧ ∀ b, I b → w'.heap[b]? = w.heap[b]?

theorem LQ_defer {k : Kx} {fn : Func} {R : Ending → World → Prop} {u u' m : FrameMode} {ρ : Env} {h h' : H} {f : FuncId} {vs : Array Value} {ds : List Deferred} (hu : u ≠ .run) (hcal : Cal k.P f) (hcd : CD k.P f vs u h h' u') (hm : settle u' = m)
 (hn : LQ k fn R (some m) ρ h' ds) : LQ k fn R (some u) ρ h ({ target := .fn (.func f) vs, args := #[] } :: ds) := by
 intro I a w h1 h2
 refine ⟨u, rfl, ?_⟩
 refine leaves_cons (f := f) (args := vs) hu ?_ ((hcd k.c I w h1).mono ?_)
 · have := hcal vs w
   simpa [invoke] using this
 · rintro e v w' ⟨rfl, rfl, k1, k2⟩
   obtain ⟨m', hm', hl⟩ := hn I a w' k1 (h2.mono k2 fun _ hb => hb)
   cases hm'
   dsimp only
   rw [hm]
   exact hl
section
variable {k : Kx} {Q : Exit → Env → H → Prop} {ρ ρ' : Env} {h h' : H} {ops : Array Oper} {l : List Oper} {dst : Option Tmp} {ty : TypeId} {pos : String} {after : Array Edge} {g : Option (Nat × Bool)}
theorem JL_panic {x : Operand} {T : TypeId} {v : Value} (hx : ev ρ x = .val (.iface T v)) (hq : Q (.panic [{ v := .iface T v, recovered := false }]) ρ h) : JL k ops (⟨dst, .panic x, ty, pos, after, none⟩ :: l) Q ρ h := by
 intro I a w h1 h2 h3
 refine wpList_plain rfl fun K hK => ?_
 unfold Oper.wp
 have e1 := rel_val (h2.ev x) hx
 have : (execOp a.eval ⟨dst, .panic x, ty, pos, after, none⟩).run k.P w = .halt (.panic (.iface T v)) w := by
  have hp : (Instr.panic (.iface T v)).run k.P w = .halt (.panic (.iface T v)) w := rfl
  simp [execOp, e1, hp]
 rw [this]
 exact ⟨I, ρ, h, h1, h2, h3, hq⟩
theorem jpan {x : Operand} {T : TypeId} {v : Value} (hx : evO ρ x = some (.val (.iface T v))) (hq : Q (.panic [{ v := .iface T v, recovered := false }]) ρ h) : JL k ops (⟨dst, .panic x, ty, pos, after, none⟩ :: l) Q ρ h := JL_panic (ev_of_evO hx) hq
/-- A row that the call made, told as data from now on. -/
theorem VS.freezeCells {b n : Nat} {E : TypeId} {sz eb : Nat} {rows : List (List D)} {vs : List AV} {h1 h2 : H} {t : Nat} (h0 : 0 < sz) (ht : get ρ t = .val (.slice (some ⟨b, 0, none⟩) n n)) (hh : h = h1 ++ .cells b E vs :: h2) (hv : vs = rows.flatten.map D.av) (hn : rows.length = n) (hsz : ∀ r ∈ rows, r.length = sz) (hb : n * eb ≤ 140737488355328) (hm : n ≤ maxLen) :
 VS ρ h ((t, .d (.l sz eb rows)) :: ρ) (h1 ++ h2) := by
 subst hh; subst hv; subst hn
 intro c I m a w k1 k2
 obtain ⟨cs, hc1, hc2⟩ := k1.ent (.cells b E (rows.flatten.map D.av)) (by simp)
 refine ⟨_, k1.release rfl, ?_⟩
 have hf := k2.wider (I' := fun x => I x ∨ x = b) fun _ h => .inl h
 refine ⟨hf.1, fun s => ?_⟩
 simp only [get]
 cases hb' : Nat.beq t s with
 | false => exact hf.2 s
 | true =>
   have := Nat.eq_of_beq_eq_true hb'
   subst this
   have hv := rel_val (k2.2 t) ht
   simp only [cond_true, hv]
   have hcell : ∀ q x, rows.flatten[q]? = some x → ∃ c, w.cell? ((⟨b, 0, none⟩ : Addr).add q) = some c ∧ Rel w I x c := fun q x hx => by
    obtain ⟨c, hc3, hc4⟩ := AV.rels_get hc2 q x.av (by rw [List.getElem?_map, hx]; rfl)
    refine ⟨c, ?_, D.av_rel' hc4⟩
    rw [Addr.add_lit, Nat.zero_add, cell_of_row w b q cs E (0, 0) hc1]
    simpa using hc3
   have hq : ∀ (j u : Nat) (r : List D) (x : D), rows[j]? = some r → r[u]? = some x → rows.flatten[j * sz + u]? = some x := fun j u r x hr hx => by
    have hu : u < sz := by
     have := (List.getElem?_eq_some_iff.1 hx).1
     rwa [hsz r (List.mem_of_getElem? hr)] at this
    rw [flatten_get h0 rows hsz, Nat.add_comm, Nat.add_mul_div_right _ _ h0, Nat.add_mul_mod_self_right, Nat.div_eq_of_lt hu, Nat.mod_eq_of_lt hu, Nat.zero_add, hr]
    exact hx
   refine Rel.l sz eb rows ⟨b, 0, none⟩ rows.length (fun j u => (w.cell? ((⟨b, 0, none⟩ : Addr).add (j * sz + u))).getD undef) (.inr rfl) (Nat.le_refl _) hm hb hsz (fun j u r x hr hx => ?_) (fun j u r x hr hx => ?_)
   · obtain ⟨c, hc3, _⟩ := hcell _ x (hq j u r x hr hx)
     simp only [hc3, Option.getD_some]
   · obtain ⟨c, hc3, hc4⟩ := hcell _ x (hq j u r x hr hx)
     simp only [hc3, Option.getD_some]
     exact hc4.mono (fun _ _ => rfl) fun _ h => .inl h
end

/-! ### Structs of two cells; own cells -/
def Bl2 (P : Program) (t : TypeId) : Prop :=
 (match P.info? t, P.underlying t with
 | some it, some (.struct fields) =>
   match it.zero, fields.toList.mapM (fun f => (P.info? f.type).map fun i => (f.offset, i.size)) with
   | some z, some places => decide (z.cells.size = 2) && decide (places = [(0, 1), (1, 1)])
   | _, _ => false
 | _, _ => false) = true
theorem Bl2.built {P : Program} {t : TypeId} (h : Bl2 P t) {u v : Value} (hu : u.oneCell' = true) (hv : v.oneCell' = true) : P.built t [(0, u), (1, v)] = some #[u, v] := by
 unfold Bl2 at h
 unfold Program.built
 cases h1 : P.info? t with
 | none => rw [h1] at h; cases h
 | some it =>
   cases h2 : P.underlying t with
   | none => rw [h1, h2] at h; cases h
   | some d =>
     cases d with
     | struct fields =>
       rw [h1, h2] at h
       dsimp only at h ⊢
       cases h3 : it.zero with
       | none => rw [h3] at h; cases h
       | some z =>
         cases h4 : fields.toList.mapM (fun f => (P.info? f.type).map fun i => (f.offset, i.size)) with
         | none => rw [h3, h4] at h; cases h
         | some places =>
           rw [h3, h4] at h
           simp only [Bool.and_eq_true, decide_eq_true_eq] at h
           obtain ⟨h5, rfl⟩ := h
           dsimp only
           obtain ⟨l, hl⟩ : ∃ l, z.cells = l := ⟨_, rfl⟩
           rw [hl] at h5 ⊢
           obtain ⟨l⟩ := l
           match l, h5 with
           | [a, b], _ => simp [Instr.fill, cells_one hu, cells_one hv]
     | _ => rw [h1, h2] at h; cases h
section
variable {P : Program} {G : List (Nat × List D)} {ρ : Env} {h : H} {dst : Option Tmp} {ty : TypeId} {pos : String} {after : Array Edge} {g : Option (Nat × Bool)}
theorem pure_build2 {T : TypeId} {x y : Operand} {r s : AV} (hT : Bl2 P T) (hx : evO ρ x = some r) (hy : evO ρ y = some s) (hr : r.flat = true) (hs : s.flat = true) : Pure P G ⟨dst, .build T #[(0, x), (1, y)], ty, pos, after, g⟩ ρ h (.agg [r, s]) :=
 pure_free fun w I _ a k => by
  have e1 := rel_as (k.ev x) (ev_of_evO hx)
  have e2 := rel_as (k.ev y) (ev_of_evO hy)
  refine ⟨.agg #[a.eval x, a.eval y], ⟨[a.eval x, a.eval y], rfl, e1, e2, trivial⟩, fun w' => ?_⟩
  have := run_build (P := P) w' T #[(0, a.eval x), (1, a.eval y)] #[a.eval x, a.eval y] (hT.built (flat_rel hr e1) (flat_rel hs e2))
  simp [execOp, this]
theorem pu_field_cells {S : TypeId} {x : Operand} {f b off fo : Nat} (hF : Fld P S f fo) (hx : evO ρ x = some (.val (.pointer (some ⟨b, off, none⟩)))) : Pure P G ⟨dst, .fieldAddr S x f, ty, pos, after, g⟩ ρ h (.val (.pointer (some ⟨b, off + fo, none⟩))) := pure_fieldAddr_cells hF (ev_of_evO hx)
theorem pu_load_cells {T T0 : TypeId} {x : Operand} {b off : Nat} {vs : List AV} {r : AV} (hT : isAggB P T = some false) (hx : evO ρ x = some (.val (.pointer (some ⟨b, off, none⟩)))) (hh : Ent.cells b T0 vs ∈ h) (hr : vs[off]? = some r) : Pure P G ⟨dst, .load T x, ty, pos, after, g⟩ ρ h r := pure_load_cells hT (ev_of_evO hx) hh hr
theorem pu_nilCheck {x : Operand} {ad : Addr} (hx : evO ρ x = some (.val (.pointer (some ad)))) : Pure P G ⟨dst, .nilCheck x, ty, pos, after, g⟩ ρ h (.val (.pointer (some ad))) := pure_nilCheck (ev_of_evO hx)
theorem pu_nilCheck_pd {x : Operand} {cs : List D} (hx : evO ρ x = some (.pd cs)) : Pure P G ⟨dst, .nilCheck x, ty, pos, after, g⟩ ρ h (.pd cs) := pure_nilCheck_pd (ev_of_evO hx)
def NotIf (P : Program) (T : TypeId) : Prop := ∃ d, P.underlying T = some d ∧ ∀ m, d ≠ .interface m
theorem pu_iface {T : TypeId} {x : Operand} {v : Value} (hT : NotIf P T) (hx : evO ρ x = some (.val v)) : Pure P G ⟨dst, .makeInterface T x, ty, pos, after, g⟩ ρ h (.val (.iface T v)) := pure_makeInterface hT (ev_of_evO hx)
end
section
variable {k : Kx} {Q : Exit → Env → H → Prop} {ρ ρ' : Env} {h h1 h2 : H} {ops : Array Oper} {l : List Oper} {dst : Option Tmp} {ty : TypeId} {pos : String} {after : Array Edge} {g : Option (Nat × Bool)}
/-- A store into a variable of one cell. -/
theorem js_one {T T0 : TypeId} {x y : Operand} {b : Nat} {r r0 : AV} {z : Value} {eb : Nat} (hx : evO ρ x = some (.val (.pointer (some ⟨b, 0, none⟩)))) (hy : evO ρ y = some r) (hs : r.flat = true) (hE : El k.P T z 1 eb) (hh : h = h1 ++ .cells b T0 [r0] :: h2)
 (hj : JL k ops l Q ρ (h1 ++ .cells b T0 [r] :: h2)) : JL k ops (⟨none, .store T x y, ty, pos, after, none⟩ :: l) Q ρ h := by
 have hcl : r.cl = [r] := by cases r <;> first | rfl | cases hs
 have hst : r.stor = true := by cases r <;> first | exact hs | cases hs
 refine JL_store (off := 0) (r := r) (vs := [r0]) (ev_of_evO hx) (ev_of_evO hy) hst hE (by rw [hcl]; rfl) hh (by rw [hcl]; simp) ?_
 rw [hcl, setAt_one _ _ _ (by simp)]
 exact hj
/-- A store into a row of numbers. -/
theorem js_int {T T0 : TypeId} {x y : Operand} {b off : Nat} {n : Int} {es : List Int} {z : Value} {eb : Nat} (hx : evO ρ x = some (.val (.pointer (some ⟨b, off, none⟩)))) (hy : evO ρ y = some (.int n)) (hE : El k.P T z 1 eb) (hh : h = h1 ++ .cells b T0 (es.map AV.int) :: h2) (hl : off < es.length)
 (hj : JL k ops l Q ρ (h1 ++ .cells b T0 ((es.set off n).map AV.int) :: h2)) : JL k ops (⟨none, .store T x y, ty, pos, after, none⟩ :: l) Q ρ h := by
 refine JL_store (off := off) (r := .int n) (vs := es.map AV.int) (ev_of_evO hx) (ev_of_evO hy) rfl hE rfl hh (by simp [AV.cl]; omega) ?_
 have : setAt (es.map AV.int) off (AV.int n).cl = (es.set off n).map AV.int := by
  rw [show (AV.int n).cl = [AV.int n] from rfl, setAt_one _ _ _ (by simpa using hl), List.map_set]
 rw [this]
 exact hj
end
theorem setCell_other (w : World) (g x : Nat) (v : Value) (hx : x ≠ g) : (w.setCell ⟨g, 0, none⟩ v).heap[x]? = w.heap[x]? := by
 simp only [World.setCell, Array.getElem?_modify]
 rw [if_neg (fun e => hx e.symm)]
theorem Ok.set1 {c : Cx} {I : Nat → Prop} {h1 h2 : H} {b : Nat} {T : TypeId} {x : AV} {v : Value} {w : World} (k : Ok c I (h1 ++ .cells b T [x] :: h2) w) : Ok c I (h1 ++ .cells b T [.val v] :: h2) (w.setCell ⟨b, 0, none⟩ v) ∧ ∀ x, I x → (w.setCell ⟨b, 0, none⟩ v).heap[x]? = w.heap[x]? := by
 obtain ⟨cs, d1, f1⟩ := k.ent (.cells b T [x]) (by simp)
 obtain ⟨u, rfl⟩ : ∃ u, cs = #[u] := by
  obtain ⟨l⟩ := cs
  match l, f1 with
  | [v], _ => exact ⟨v, rfl⟩
  | _ :: _ :: _, ⟨_, g⟩ => exact g.elim
 refine k.write (e := .cells b T [x]) (e' := .cells b T [.val v]) (b := b) rfl rfl rfl rfl rfl (by simp [World.setCell]) (fun y hy => setCell_other w b y v hy) ⟨#[v], ?_, rfl, trivial⟩
 simp only [World.setCell, Array.getElem?_modify, if_true]
 rw [d1]; rfl
theorem Ent.cells_one {w : World} {I : Nat → Prop} {b : Nat} {T : TypeId} {x : AV} (h : Ent.rel w I (.cells b T [x])) : ∃ u, w.heap[b]? = some (.cells #[u] T (0, 0)) := by
 obtain ⟨cs, d1, f1⟩ := h
 obtain ⟨l⟩ := cs
 match l, f1 with
 | [v], _ => exact ⟨v, d1⟩
 | _ :: _ :: _, ⟨_, g⟩ => exact g.elim
section
variable {k : Kx} {Q : Exit → Env → H → Prop} {ρ : Env} {h hc hr : H} {ops : Array Oper} {l : List Oper} {d : Nat} {dst : Option Tmp} {ty : TypeId} {pos : String} {after : Array Edge}
/-- A call that is handed all that the caller writes on. -/
theorem callA {f : FuncId} {xs : Array Operand} {ats : Array TypeId} {args : List AV} {R : AE → H → Prop} (hargs : evsO ρ xs.toList = some args) (hcal : Cal k.P f) (hac : AC k.P k.c.G f args h R) (hd : Nat.blt d k.n = true)
 (hret : ∀ r h', R (.ret r) h' → JL k ops l Q ((d, r) :: ρ) h') (hpan : ∀ ch h', R (.pan ch) h' → Q (.panic ch) ρ h') :
 JL k ops (⟨some d, .call { callee := .value (.func f), args := xs, argTypes := ats }, ty, pos, after, none⟩ :: l) Q ρ h :=
 callw (hc := h) (hr := []) hargs hcal (List.append_nil h).symm hac hd (fun r h' hq => by rw [List.append_nil]; exact hret r h' hq) (fun ch h' hq => by rw [List.append_nil]; exact hpan ch h' hq)
end
section
variable {P : Program} {G : List (Nat × List D)} {ρ : Env} {h : H} {dst : Option Tmp} {ty : TypeId} {pos : String} {after : Array Edge} {g : Option (Nat × Bool)}
theorem pu_index_cells {T E : TypeId} {x y : Operand} {b len cap : Nat} {n : Int} {sz eb : Nat} {z : Value} (hx : evO ρ x = some (.val (.slice (some ⟨b, 0, none⟩) len cap))) (hT : P.underlying T = some (.slice E)) (hE : El P E z sz eb)
 (hy : ev ρ y = .int n) (h0 : 0 ≤ n) (h1 : n < len) : Pure P G ⟨dst, .indexAddr T x y, ty, pos, after, g⟩ ρ h (.val (.pointer (some ⟨b, n.toNat * sz, none⟩))) := pure_indexAddr_cells hT hE (ev_of_evO hx) hy h0 h1
/-- A place of an array that lies in cells. -/
theorem pu_index_arr {T E : TypeId} {x y : Operand} {b off len : Nat} {n : Int} {sz eb : Nat} {z : Value} (hx : evO ρ x = some (.val (.pointer (some ⟨b, off, none⟩)))) (hT : P.underlying T = some (.array len E)) (hy : ev ρ y = .int n) (hE : El P E z sz eb) (h0 : 0 ≤ n) (h1 : n < len) :
 Pure P G ⟨dst, .indexAddr T x y, ty, pos, after, g⟩ ρ h (.val (.pointer (some ⟨b, off + n.toNat * sz, none⟩))) :=
 pure_free fun _ _ _ a hs => ⟨_, rfl, fun w' => by
  obtain ⟨i, hE, _, hsz, _⟩ := hE.get
  have e1 := rel_val (hs.ev x) (ev_of_evO hx)
  have e2 := rel_val (hs.ev y) hy
  simp [execOp, e1, e2, Instr.indexAt, run_underlying hT, asIntOf, Instr.sureAddr, h0, h1, sizeOf, typeInfo, hE, Addr.add_lit, hsz]⟩
end
theorem LQ_vs {k : Kx} {fn : Func} {R : Ending → World → Prop} {u : Option FrameMode} {ρ ρ' : Env} {h h' : H} {df : List Deferred} (v : VS ρ h ρ' h') (hl : LQ k fn R u ρ' h' df) : LQ k fn R u ρ h df :=
 fun I a w h1 h2 => let ⟨I', k1, k2⟩ := v k.c I k.n a w h1 h2; hl I' a w k1 k2
section
variable {k : Kx} {Q : Exit → Env → H → Prop} {ρ : Env} {h : H} {ops : Array Oper} {l : List Oper} {d : Nat} {dst : Option Tmp} {ty : TypeId} {pos : String} {after : Array Edge}
theorem jalloc1 {T : TypeId} {z : Value} {eb : Nat} (hz : El k.P T z 1 eb) (h1 : z.oneCell' = true) (hd : Nat.blt d k.n = true)
 (hj : ∀ b, JL k ops l Q ((d, .val (.pointer (some ⟨b, 0, none⟩))) :: ρ) (.cells b T [.val z] :: h)) : JL k ops (⟨some d, .alloc T, ty, pos, after, none⟩ :: l) Q ρ h :=
 JL_alloc hz (fun t ht => by cases ht; exact blt hd) fun b => by rw [cells_one h1]; exact hj b
theorem jbox {T : TypeId} {x : Operand} {cs : List AV} (hx : evO ρ x = some (.agg cs)) (hs : cs.all AV.flat = true) (hd : Nat.blt d k.n = true)
 (hj : ∀ b, JL k ops l Q ((d, .val (.pointer (some ⟨b, 0, none⟩))) :: ρ) (.cells b T cs :: h)) : JL k ops (⟨some d, .box T x, ty, pos, after, none⟩ :: l) Q ρ h :=
 JL_box (ev_of_evO hx) hs (fun t ht => by cases ht; exact blt hd) hj
theorem jmake_int {T E : TypeId} {x : Operand} {n : Nat} {eb : Nat} (hx : evO ρ x = some (.int n)) (hT : k.P.underlying T = some (.slice E)) (hz : El k.P E (.int .i64 0) 1 eb) (hb : eb * n ≤ 281474976710656) (hm : n ≤ 9223372036854775807) (hd : Nat.blt d k.n = true)
 (hj : ∀ b, JL k ops l Q ((d, .val (.slice (some ⟨b, 0, none⟩) n n)) :: ρ) (.cells b E ((List.replicate n 0).map AV.int) :: h)) : JL k ops (⟨some d, .makeSlice T x x, ty, pos, after, none⟩ :: l) Q ρ h :=
 JL_make hT hz rfl (ev_of_evO hx) hb hm (fun t ht => by cases ht; exact blt hd) fun b => by have := hj b; rwa [List.map_replicate] at this
end
end Go.Av
namespace Go.Av
open Go
set_option linter.unusedVariables false
set_option linter.unusedSimpArgs false

structure Two (A B : Prop) : Prop where
 fst : A
 snd : B
structure Imp (c A : Prop) : Prop where
 get : c → A
structure All {α : Type} (p : α → Prop) : Prop where
 get : ∀ v, p v
theorem cmp {p r q : Prop} (g : r → q) (f : p → r) : p → q := fun h => g (f h)
theorem two {A B : Prop} (h1 : A) (h2 : B) : Two A B := ⟨h1, h2⟩
theorem imp {c A : Prop} (h : c → A) : Imp c A := ⟨h⟩
theorem all {α : Type} {p : α → Prop} (h : ∀ v, p v) : All p := ⟨h⟩
theorem cb_decT {p : Prop} [Decidable p] {A B : Prop} (h : Two (Imp p A) (Imp (¬ p) B)) : CB (decide p) A B := cb_dec h.1.get h.2.get
theorem cb_splitT {b : Bool} {A B : Prop} (h : Two (Imp (b = true) A) (Imp (b = false) B)) : CB b A B := cb_split h.1.get h.2.get

/-- A row of the call's own, its elements told. -/
abbrev rowE {α : Type} (v : Value) (E : TypeId) (sz : Nat) (f : α → List D) (xs : List α) : Ent := .row v xs.length E sz ((xs.map f).flatten.map D.av)

/-- The end of a body, seen through a view. -/
def retV (ts : List Tmp) (Q : AE → H → Prop) (e : Exit) (ρ : Env) (h : H) : Prop := ∃ ρ' h', VS ρ h ρ' h' ∧ retQ ts Q e ρ' h'
theorem retv {ts : List Tmp} {Q : AE → H → Prop} {e : Exit} {ρ ρ' : Env} {h h' : H} (v : VS ρ h ρ' h') (hq : retQ ts Q e ρ' h') : retV ts Q e ρ h := ⟨ρ', h', v, hq⟩
theorem retv0 {ts : List Tmp} {Q : AE → H → Prop} {e : Exit} {ρ : Env} {h : H} (hq : retQ ts Q e ρ h) : retV ts Q e ρ h := ⟨ρ, h, VS.of_le (Env.le_refl _), hq⟩
theorem AC_ofV {P : Program} {G : List (Nat × List D)} {f : FuncId} {fn : Func} {c : Code} {args : List AV} {h : H} {Q : AE → H → Prop} {ts : List Tmp} (n : Nat) (hf : P.funcs[f]? = some fn) (hb : fn.body = some c) (hn : fn.ntmps = n) (hr : fn.results = (ts.map ResultVar.tmp).toArray) (ha : args.length ≤ n)
 (hj : ∀ W I, J ⟨P, ⟨W, I, blks h, G⟩, n, []⟩ c (retV ts Q) (argsEnv 0 args) h) : AC P G f args h Q := by
 refine AC_of n hf hb hn hr ha fun W I => ?_
 intro I' a w h1 h2 h3
 refine wp_mono (hj W I I' a w h1 h2 h3) ?_
 rintro e a' w' ⟨I'', ρ, hh, k1, k2, k3, ρ', hh', v, q⟩
 obtain ⟨I3, m1, m2⟩ := v _ _ _ _ _ k1 k2
 exact ⟨I3, ρ', hh', m1, m2, k3, q⟩

section
variable {k : Kx} {Q : Exit → Env → H → Prop} {ρ ρ' : Env} {h h1 h2 : H} {ops : Array Oper} {l : List Oper} {d : Nat} {dst : Option Tmp} {ty : TypeId} {pos : String} {after : Array Edge} {g : Option (Nat × Bool)}

theorem rows_flat_snoc {α : Type} (f : α → List D) (xs ys : List α) : ((xs.map f).flatten.map D.av) ++ ((ys.map f).flatten.map D.av) = (((xs ++ ys).map f).flatten.map D.av) := by simp

/-- append(row, more...). -/
theorem japps {α : Type} {f : α → List D} {xs ys : List α} {T E : TypeId} {x y : Operand} {z : Value} {sz eb eb' : Nat} {v : Value} (hx : evO ρ x = some (.val v)) (hy : evO ρ y = some (.d (.l sz eb' (ys.map f)))) (hT : k.P.underlying T = some (.slice E)) (he : El k.P E z sz eb) (hz : z.cells.size = sz) (h0 : Nat.blt 0 sz = true)
 (hd : Nat.blt d k.n = true) (hb : (xs.length + ys.length) * eb ≤ 140737488355328) (hm : xs.length + ys.length ≤ 140737488355328)
 (hj : ∀ v', JL k ops l Q ((d, .val v') :: ρ) (rowE v' E sz f (xs ++ ys) :: h)) :
 JL k ops (⟨some d, .call { callee := .builtin .append, args := #[x, y], argTypes := #[T, T] }, ty, pos, after, none⟩ :: l) Q ρ (rowE v E sz f xs :: h) := by
 refine JL_append (h1 := []) (h2 := h) hT he hz (blt h0) (ev_of_evO hx) (ev_of_evO hy) rfl (by simpa using hb) (by simpa using hm) (fun t ht => by cases ht; exact blt hd) fun v' => ?_
 have := hj v'
 rw [List.nil_append, rows_flat_snoc]
 unfold rowE at this
 rw [List.length_append] at this
 rw [List.length_map]
 exact this
/-- append(row, one). -/
theorem japp {α : Type} {f : α → List D} {xs : List α} {u : α} {T E : TypeId} {x y : Operand} {z : Value} {sz eb eb' : Nat} {v : Value} (hx : evO ρ x = some (.val v)) (hy : evO ρ y = some (.d (.l sz eb' [f u]))) (hT : k.P.underlying T = some (.slice E)) (he : El k.P E z sz eb) (hz : z.cells.size = sz) (h0 : Nat.blt 0 sz = true)
 (hd : Nat.blt d k.n = true) (hb : (xs.length + 1) * eb ≤ 140737488355328) (hm : xs.length + 1 ≤ 140737488355328)
 (hj : All fun v' => JL k ops l Q ((d, .val v') :: ρ) (rowE v' E sz f (xs ++ [u]) :: h)) :
 JL k ops (⟨some d, .call { callee := .builtin .append, args := #[x, y], argTypes := #[T, T] }, ty, pos, after, none⟩ :: l) Q ρ (rowE v E sz f xs :: h) :=
 japps (ys := [u]) hx hy hT he hz h0 hd hb hm hj.get
/-- append(nothing, more...): new memory. -/
theorem japp_nil {α : Type} {f : α → List D} {ys : List α} {T E : TypeId} {x y : Operand} {z : Value} {sz eb eb' : Nat} (hx : evO ρ x = some (.val (.slice none 0 0))) (hy : evO ρ y = some (.d (.l sz eb' (ys.map f)))) (hT : k.P.underlying T = some (.slice E)) (he : El k.P E z sz eb) (hz : z.cells.size = sz) (h0 : Nat.blt 0 sz = true)
 (hd : Nat.blt d k.n = true) (hb : ys.length * eb ≤ 140737488355328) (hm : ys.length ≤ 140737488355328)
 (hj : ∀ v', JL k ops l Q ((d, .val v') :: ρ) (rowE v' E sz f ys :: h)) :
 JL k ops (⟨some d, .call { callee := .builtin .append, args := #[x, y], argTypes := #[T, T] }, ty, pos, after, none⟩ :: l) Q ρ h :=
 JL_vs (VS.nilrow E sz) (japps (xs := []) hx hy hT he hz h0 hd (by simpa using hb) (by simpa using hm) (by simpa using hj))
theorem vfreeze {α : Type} {f : α → List D} {xs : List α} {t : Nat} {v : Value} {E : TypeId} {sz eb : Nat} (ht : getO ρ t = some (.val v)) (h0 : Nat.blt 0 sz = true) (hsz : ∀ x, (f x).length = sz) (hb : xs.length * eb ≤ 140737488355328) :
 VS ρ (rowE v E sz f xs :: h) ((t, .d (.l sz eb (xs.map f))) :: ρ) h :=
 VS.freeze (h1 := []) (rows := xs.map f) (blt h0) (get_of_getO ht) rfl (by simp) (fun r hr => by obtain ⟨x, _, rfl⟩ := List.mem_map.1 hr; exact hsz x) hb
theorem jrow {α : Type} {E : TypeId} {sz : Nat} (f : α → List D) {x : Code} (hj : J k x Q ρ (rowE (.slice none 0 0) E sz f [] :: h)) : J k x Q ρ h := J_vs (VS.nilrow E sz) hj

theorem vnil {t : Nat} (sz eb : Nat) (ht : getO ρ t = some (.val (.slice none 0 0))) : VS ρ h ((t, .d (.l sz eb [])) :: ρ) h :=
 VS.of_le (Env.le_cons (by rw [get_of_getO ht]; exact AV.le_nil sz eb) (Env.le_refl _))
/-- append(nothing, more...), never written again. -/
theorem japp_copy {α : Type} {f : α → List D} {ys : List α} {T E : TypeId} {x y : Operand} {z : Value} {sz eb eb' : Nat} (hx : evO ρ x = some (.val (.slice none 0 0))) (hy : evO ρ y = some (.d (.l sz eb' (ys.map f)))) (hT : k.P.underlying T = some (.slice E)) (he : El k.P E z sz eb) (hz : z.cells.size = sz) (h0 : Nat.blt 0 sz = true)
 (hd : Nat.blt d k.n = true) (hsz : ∀ u, (f u).length = sz) (hb : ys.length * eb ≤ 140737488355328) (hm : ys.length ≤ 140737488355328)
 (hj : JL k ops l Q ((d, .d (.l sz eb (ys.map f))) :: ρ) h) :
 JL k ops (⟨some d, .call { callee := .builtin .append, args := #[x, y], argTypes := #[T, T] }, ty, pos, after, none⟩ :: l) Q ρ h :=
 japp_nil hx hy hT he hz h0 hd hb hm fun v => JL_vs (vfreeze (t := d) (v := v) (by simp [getO]) h0 hsz hb)
  (JL_le (fun t => by simp only [get]; cases Nat.beq d t <;> exact AV.le_refl _) hj)
/-! ### One-element literals -/
theorem jbuild1 {T E : TypeId} {x : Operand} {r : AV} {z : Value} {sz eb : Nat} {row : List D} (hT : k.P.underlying T = some (.slice E)) (he : El k.P E z sz eb) (h0 : 0 < sz) (hx : evO ρ x = some r) (hs : r.stor = true) (hr : r.cl = row.map D.av) (hsz : row.length = sz) (hb : eb ≤ 140737488355328) (hc : sz ≤ 16777216)
 (hd : Nat.blt d k.n = true) (hj : JL k ops l Q ((d, .d (.l sz eb [row])) :: ρ) h) : JL k ops (⟨some d, .buildSlice T 1 #[(0, x)], ty, pos, after, none⟩ :: l) Q ρ h :=
 JL_buildSlice (xs := [x]) (rows := [row]) hT he h0 rfl rfl (by simp [ev_of_evO hx, hr]) (by simpa [ev_of_evO hx] using hs) (by simpa using hsz) (by simpa using hb) (by simpa using hc) (fun t ht => by cases ht; exact blt hd) hj
theorem jbuild_int {T E : TypeId} {x : Operand} {n : Int} {z : Value} {eb : Nat} (hx : evO ρ x = some (.int n)) (hT : k.P.underlying T = some (.slice E)) (he : El k.P E z 1 eb) (hb : Nat.ble eb 1000000 = true)
 (hd : Nat.blt d k.n = true) (hj : JL k ops l Q ((d, .d (.l 1 eb [[.i .i64 n]])) :: ρ) h) : JL k ops (⟨some d, .buildSlice T 1 #[(0, x)], ty, pos, after, none⟩ :: l) Q ρ h :=
 jbuild1 hT he (by decide) hx rfl rfl rfl (Nat.le_trans (Nat.le_of_ble_eq_true hb) (by decide)) (by decide) hd hj
theorem jbuild_bool {T E : TypeId} {x : Operand} {n : Bool} {z : Value} {eb : Nat} (hx : evO ρ x = some (.bool n)) (hT : k.P.underlying T = some (.slice E)) (he : El k.P E z 1 eb) (hb : Nat.ble eb 1000000 = true)
 (hd : Nat.blt d k.n = true) (hj : JL k ops l Q ((d, .d (.l 1 eb [[.b n]])) :: ρ) h) : JL k ops (⟨some d, .buildSlice T 1 #[(0, x)], ty, pos, after, none⟩ :: l) Q ρ h :=
 jbuild1 hT he (by decide) hx rfl rfl rfl (Nat.le_trans (Nat.le_of_ble_eq_true hb) (by decide)) (by decide) hd hj
theorem jbuild_list {T E : TypeId} {x : Operand} {sz' eb' : Nat} {rows : List (List D)} {z : Value} {eb : Nat} (hx : evO ρ x = some (.d (.l sz' eb' rows))) (hT : k.P.underlying T = some (.slice E)) (he : El k.P E z 1 eb) (hb : Nat.ble eb 1000000 = true)
 (hd : Nat.blt d k.n = true) (hj : JL k ops l Q ((d, .d (.l 1 eb [[.l sz' eb' rows]])) :: ρ) h) : JL k ops (⟨some d, .buildSlice T 1 #[(0, x)], ty, pos, after, none⟩ :: l) Q ρ h :=
 jbuild1 hT he (by decide) hx rfl rfl rfl (Nat.le_trans (Nat.le_of_ble_eq_true hb) (by decide)) (by decide) hd hj
theorem all_av_flat (cs : List D) : (cs.map D.av).all AV.flat = true := by simp [D.av_flat]
theorem jbuild_agg {T E : TypeId} {x : Operand} {cs : List D} {z : Value} {sz eb : Nat} (hx : evO ρ x = some (.agg (cs.map D.av))) (hT : k.P.underlying T = some (.slice E)) (he : El k.P E z sz eb) (hsz : cs.length = sz) (h0 : Nat.blt 0 sz = true) (hb : Nat.ble eb 1000000 = true) (hc : Nat.ble sz 1000000 = true)
 (hd : Nat.blt d k.n = true) (hj : JL k ops l Q ((d, .d (.l sz eb [cs])) :: ρ) h) : JL k ops (⟨some d, .buildSlice T 1 #[(0, x)], ty, pos, after, none⟩ :: l) Q ρ h :=
 jbuild1 hT he (blt h0) hx (all_av_flat cs) rfl hsz (Nat.le_trans (Nat.le_of_ble_eq_true hb) (by decide)) (Nat.le_trans (Nat.le_of_ble_eq_true hc) (by decide)) hd hj

/-- A literal, as data of two numbers. -/
theorem jbuild_two {T E : TypeId} {x : Operand} {a b : Int} {z : Value} {eb : Nat} (hx : evO ρ x = some (.agg [.int a, .int b])) (hT : k.P.underlying T = some (.slice E)) (he : El k.P E z 2 eb) (hb : Nat.ble eb 1000000 = true)
 (hd : Nat.blt d k.n = true) (hj : JL k ops l Q ((d, .d (.l 2 eb [[.i .i64 a, .i .i64 b]])) :: ρ) h) : JL k ops (⟨some d, .buildSlice T 1 #[(0, x)], ty, pos, after, none⟩ :: l) Q ρ h :=
 jbuild1 hT he (by decide) hx rfl rfl rfl (Nat.le_trans (Nat.le_of_ble_eq_true hb) (by decide)) (by decide) hd hj
end

section
variable {P : Program} {G : List (Nat × List D)} {ρ : Env} {h : H} {dst : Option Tmp} {ty : TypeId} {pos : String} {after : Array Edge} {g : Option (Nat × Bool)}
theorem pu_slice {α : Type} {f : α → List D} {xs : List α} {T E : TypeId} {x lo hi : Operand} {sz eb : Nat} {m n : Int} {z : Value} {eb' : Nat} (hx : evO ρ x = some (.d (.l sz eb (xs.map f)))) (hlo : evO ρ lo = some (.int m)) (hhi : evO ρ hi = some (.int n)) (hT : P.underlying T = some (.slice E)) (hE : El P E z sz eb')
 (h0 : 0 ≤ m) (h1 : m ≤ n) (h2 : n ≤ xs.length) : Pure P G ⟨dst, .slice T x (some lo) (some hi) none, ty, pos, after, g⟩ ρ h (.d (.l sz eb (((xs.drop m.toNat).take (n.toNat - m.toNat)).map f))) := by
 rw [List.map_take, List.map_drop]
 exact pure_slice hT hE (ev_of_evO hx) (ev_of_evO hlo) (ev_of_evO hhi) h0 h1 (by rwa [List.length_map])
theorem pu_slice_from {α : Type} {f : α → List D} {xs : List α} {T E : TypeId} {x lo : Operand} {sz eb : Nat} {m : Int} {z : Value} {eb' : Nat} (hx : evO ρ x = some (.d (.l sz eb (xs.map f)))) (hlo : evO ρ lo = some (.int m)) (hT : P.underlying T = some (.slice E)) (hE : El P E z sz eb')
 (h0 : 0 ≤ m) (h2 : m ≤ xs.length) : Pure P G ⟨dst, .slice T x (some lo) none none, ty, pos, after, g⟩ ρ h (.d (.l sz eb ((xs.drop m.toNat).map f))) := by
 rw [List.map_drop]
 exact pure_slice_from hT hE (ev_of_evO hx) (ev_of_evO hlo) h0 (by rwa [List.length_map])
theorem pu_slice_to {α : Type} {f : α → List D} {xs : List α} {T E : TypeId} {x hi : Operand} {sz eb : Nat} {n : Int} {z : Value} {eb' : Nat} (hx : evO ρ x = some (.d (.l sz eb (xs.map f)))) (hhi : evO ρ hi = some (.int n)) (hT : P.underlying T = some (.slice E)) (hE : El P E z sz eb')
 (h0 : 0 ≤ n) (h2 : n ≤ xs.length) : Pure P G ⟨dst, .slice T x none (some hi) none, ty, pos, after, g⟩ ρ h (.d (.l sz eb ((xs.take n.toNat).map f))) := by
 rw [List.map_take]
 exact pure_slice_to hT hE (ev_of_evO hx) (ev_of_evO hhi) h0 (by rwa [List.length_map])
end
section
variable {P : Program} {G : List (Nat × List D)} {ρ : Env} {h : H} {dst : Option Tmp} {ty : TypeId} {pos : String} {after : Array Edge} {g : Option (Nat × Bool)}
theorem pu_max {x y : Operand} {m n : Int} {ats : Array TypeId} (hx : evO ρ x = some (.int m)) (hy : evO ρ y = some (.int n)) : Pure P G ⟨dst, .call { callee := .builtin .max, args := #[x, y], argTypes := ats }, ty, pos, after, g⟩ ρ h (.int (max m n)) :=
 pure_free fun w I _ a hs => ⟨_, rfl, fun w' => by
  have e1 := rel_val (hs.ev x) (ev_of_evO hx)
  have e2 := rel_val (hs.ev y) (ev_of_evO hy)
  have e3 : (if n > m then n else m) = max m n := by omega
  have hr : (Builtin.max_ ats ty #[.int .i64 m, .int .i64 n]).run P w' = .ok (.int .i64 (max m n)) w' := by rw [← e3]; simp [Builtin.max_, Builtin.max2]
  simp [execOp, resolve, invoke, builtin, e1, e2, hr]⟩
/-- A struct read whole, where nobody writes. -/
theorem pu_load_row {T : TypeId} {x : Operand} {cs : List D} {z : Value} {sz eb : Nat} (hT : isAggB P T = some true) (hx : ev ρ x = .pd cs) (hE : El P T z sz eb) (hn : sz = cs.length) : Pure P G ⟨dst, .load T x, ty, pos, after, g⟩ ρ h (.agg (cs.map D.av)) :=
 pure_load_agg hT hE hx (by rw [hn, List.take_length]) hn
/-- The type's values are equal where their two numbers are. -/
def Eq2 (P : Program) (T : TypeId) : Prop := P.eqGuardType P.depth T = false ∧ ∀ (a b c d : Int) w, (Op.equalIn 10000 T (.agg #[.int .i64 a, .int .i64 b]) (.agg #[.int .i64 c, .int .i64 d])).run P w = .ok (a == c && b == d) w
theorem pu_neq2 {T T' : TypeId} {x y : Operand} {a b c d : Int} (hT : Eq2 P T) (hx : evO ρ x = some (.agg [.int a, .int b])) (hy : evO ρ y = some (.agg [.int c, .int d])) :
 Pure P G ⟨dst, .binOp .neq T x y T', ty, pos, after, g⟩ ρ h (.bool (!(a == c && b == d))) :=
 pure_free fun w I _ s k => ⟨_, rfl, fun w' => by
  obtain ⟨vs, e1, r1⟩ := rel_as (k.ev x) (ev_of_evO hx)
  obtain ⟨us, e2, r2⟩ := rel_as (k.ev y) (ev_of_evO hy)
  obtain ⟨rfl⟩ : vs = [.int .i64 a, .int .i64 b] := by
   match vs, r1 with
   | [p, q], ⟨h1, h2, _⟩ => cases h1; cases h2; rfl
  obtain ⟨rfl⟩ : us = [.int .i64 c, .int .i64 d] := by
   match us, r2 with
   | [p, q], ⟨h1, h2, _⟩ => cases h1; cases h2; rfl
  simp [execOp, e1, e2, run_eqGuard_agg _ _ _ _ _ _ _ hT.1, run_neq_struct, hT.2]⟩
end
end Go.Av
namespace Go.Av
open Go
set_option linter.unusedVariables false
set_option linter.unusedSimpArgs false

section
variable {k : Kx} {Q : Exit → Env → H → Prop} {ρ ρ' : Env} {h h' h1 h2 : H} {ops : Array Oper} {l : List Oper} {d : Nat} {dst : Option Tmp} {ty : TypeId} {pos : String} {after : Array Edge} {g : Option (Nat × Bool)}
open Classical in
/-- A loop whose round leaves more than the next begins with. -/
theorem J_loopV {X : Type} {x : Code} (S : X → Env) (G : X → H) (Inv : X → Prop) (μ : X → Nat) (x0 : X) (h0 : Inv x0) (hv : VS ρ h (S x0) (G x0))
 (round : ∀ y, Inv y → J k x (thenQ (fun ρ' h' => ∃ y', Inv y' ∧ μ y' < μ y ∧ VS ρ' h' (S y') (G y')) Q) (S y) (G y)) : J k (.loop x) Q ρ h := by
 intro I a w h1 h2 h3
 let fits (a : Act) (w : World) (y : X) : Prop := Inv y ∧ ∃ I, Ok k.c I (G y) w ∧ SF k.n w I (S y) a ∧ a.defers = k.df
 let has (a : Act) (w : World) (m : Nat) : Prop := ∃ y, fits a w y ∧ μ y = m
 let M (a : Act) (w : World) : Nat := if hx : ∃ m, has a w m then Classical.choose (least hx) else 0
 have hM : ∀ a w y, fits a w y → M a w ≤ μ y ∧ ∃ z, fits a w z ∧ μ z = M a w := by
  intro a w y hy
  have hx : ∃ m, has a w m := ⟨μ y, y, hy, rfl⟩
  have hd : M a w = Classical.choose (least hx) := by simp only [M, dif_pos hx]
  have hs := Classical.choose_spec (least hx)
  exact ⟨by rw [hd]; exact hs.2 _ ⟨y, hy, rfl⟩, by rw [hd]; exact hs.1⟩
 obtain ⟨I0, m1, m2⟩ := hv _ _ _ _ _ h1 h2
 refine wp_loop (fun a w => ∃ y, fits a w y) M ⟨x0, h0, I0, m1, m2, h3⟩ ?_
 rintro a w ⟨y, hy⟩
 obtain ⟨_, z, ⟨hz1, I', hz2, hz3, hz4⟩, hz⟩ := hM a w y hy
 refine wp_mono (round z hz1 I' a w hz2 hz3 hz4) ?_
 rintro e a' w' ⟨I, ρ1, h1, k1, k2, k3, k4⟩
 cases e with
 | normal =>
   obtain ⟨y', i1, i2, v⟩ := k4
   obtain ⟨I2, n1, n2⟩ := v _ _ _ _ _ k1 k2
   have hy' : fits a' w' y' := ⟨i1, I2, n1, n2, k3⟩
   exact ⟨⟨y', hy'⟩, Nat.lt_of_le_of_lt (hM a' w' y' hy').1 (hz ▸ i2)⟩
 | _ => exact ⟨I, ρ1, h1, k1, k2, k3, k4⟩

theorem vle (hs : List.Sublist h' h) (hle : Env.le ρ ρ') : VS ρ h ρ' h' := VS.trans (VS.drop hs) (VS.of_le hle)
theorem dropE {e : Ent} : List.Sublist h (e :: h) := List.sublist_cons_self _ _

/-- append(row, one), a newer variable standing ahead of the row. -/
theorem japp1 {α : Type} {f : α → List D} {xs : List α} {u : α} {T E : TypeId} {x y : Operand} {z : Value} {sz eb eb' : Nat} {v : Value} {e : Ent} (hx : evO ρ x = some (.val v)) (hy : evO ρ y = some (.d (.l sz eb' [f u]))) (hT : k.P.underlying T = some (.slice E)) (he : El k.P E z sz eb) (hz : z.cells.size = sz) (h0 : Nat.blt 0 sz = true)
 (hd : Nat.blt d k.n = true) (hb : (xs.length + 1) * eb ≤ 140737488355328) (hm : xs.length + 1 ≤ 140737488355328)
 (hj : All fun v' => JL k ops l Q ((d, .val v') :: ρ) (e :: rowE v' E sz f (xs ++ [u]) :: h)) :
 JL k ops (⟨some d, .call { callee := .builtin .append, args := #[x, y], argTypes := #[T, T] }, ty, pos, after, none⟩ :: l) Q ρ (e :: rowE v E sz f xs :: h) := by
 refine JL_append (h1 := [e]) (h2 := h) (rows := [u].map f) hT he hz (blt h0) (ev_of_evO hx) (ev_of_evO hy) rfl (by simpa using hb) (by simpa using hm) (fun t ht => by cases ht; exact blt hd) fun v' => ?_
 have := hj.get v'
 rw [rows_flat_snoc]
 unfold rowE at this
 rw [List.length_append] at this
 rw [List.length_map]
 exact this
/-- A variable of several cells. -/
theorem jallocN {T : TypeId} {z : Value} {sz eb : Nat} (hz : El k.P T z sz eb) (hd : Nat.blt d k.n = true)
 (hj : All fun b => JL k ops l Q ((d, .val (.pointer (some ⟨b, 0, none⟩))) :: ρ) (.cells b T (z.cells.toList.map AV.val) :: h)) : JL k ops (⟨some d, .alloc T, ty, pos, after, none⟩ :: l) Q ρ h :=
 JL_alloc hz (fun t ht => by cases ht; exact blt hd) hj.get
theorem jboxT {T : TypeId} {x : Operand} {cs : List AV} (hx : evO ρ x = some (.agg cs)) (hs : cs.all AV.flat = true) (hd : Nat.blt d k.n = true)
 (hj : All fun b => JL k ops l Q ((d, .val (.pointer (some ⟨b, 0, none⟩))) :: ρ) (.cells b T cs :: h)) : JL k ops (⟨some d, .box T x, ty, pos, after, none⟩ :: l) Q ρ h := jbox hx hs hd hj.get
theorem jbox1 {T : TypeId} {x : Operand} {r : AV} (hx : evO ρ x = some r) (hs : r.flat = true) (hd : Nat.blt d k.n = true)
 (hj : All fun b => JL k ops l Q ((d, .val (.pointer (some ⟨b, 0, none⟩))) :: ρ) (.cells b T [r] :: h)) : JL k ops (⟨some d, .box T x, ty, pos, after, none⟩ :: l) Q ρ h := by
 have hcl : r.cl = [r] := by cases r <;> first | rfl | cases hs
 have hst : r.stor = true := by cases r <;> first | exact hs | cases hs
 exact JL_box (ev_of_evO hx) hst (fun t ht => by cases ht; exact blt hd) fun b => by rw [hcl]; exact hj.get b
/-- A store of a whole struct into the newest variable. -/
theorem js_all {T T0 : TypeId} {x y : Operand} {b : Nat} {cs vs : List AV} {z : Value} {sz eb : Nat} (hx : evO ρ x = some (.val (.pointer (some ⟨b, 0, none⟩)))) (hy : evO ρ y = some (.agg cs)) (hs : cs.all AV.flat = true) (hE : El k.P T z sz eb) (hn : sz = cs.length) (hl : vs.length = cs.length)
 (hj : JL k ops l Q ρ (.cells b T0 cs :: h)) : JL k ops (⟨none, .store T x y, ty, pos, after, none⟩ :: l) Q ρ (.cells b T0 vs :: h) := by
 refine JL_store (h1 := []) (h2 := h) (off := 0) (r := .agg cs) (vs := vs) (ev_of_evO hx) (ev_of_evO hy) hs hE hn rfl (by simp [AV.cl, hl]) ?_
 have : setAt vs 0 (AV.agg cs).cl = cs := by simp [setAt, AV.cl, ← hl]
 rw [this]
 exact hj
/-- A store of one cell into the newest variable. -/
theorem js_head {T T0 : TypeId} {x y : Operand} {b : Nat} {r r0 : AV} {z : Value} {eb : Nat} (hx : evO ρ x = some (.val (.pointer (some ⟨b, 0, none⟩)))) (hy : evO ρ y = some r) (hs : r.flat = true) (hE : El k.P T z 1 eb)
 (hj : JL k ops l Q ρ (.cells b T0 [r] :: h)) : JL k ops (⟨none, .store T x y, ty, pos, after, none⟩ :: l) Q ρ (.cells b T0 [r0] :: h) := js_one (h1 := []) hx hy hs hE rfl hj
end
section
variable {P : Program} {G : List (Nat × List D)} {ρ : Env} {h : H} {dst : Option Tmp} {ty : TypeId} {pos : String} {after : Array Edge} {g : Option (Nat × Bool)}
theorem pu_load_cells_agg {T T0 : TypeId} {x : Operand} {b off : Nat} {vs : List AV} {z : Value} {sz eb : Nat} (hT : isAggB P T = some true) (hx : evO ρ x = some (.val (.pointer (some ⟨b, off, none⟩)))) (hE : El P T z sz eb) (hh : Ent.cells b T0 vs ∈ h) (hn : Nat.ble (off + sz) vs.length = true) :
 Pure P G ⟨dst, .load T x, ty, pos, after, g⟩ ρ h (.agg ((vs.drop off).take sz)) := pure_load_cells_agg hT hE (ev_of_evO hx) hh (Nat.le_of_ble_eq_true hn)
end
end Go.Av
namespace Go.Av
open Go
set_option linter.unusedVariables false
set_option linter.unusedSimpArgs false

/-- What the caller itself made, shown to a callee as data for the time of the call. -/
def Bor (h : H) (x y : AV) : Prop := ∀ c I w v, Ok c I h w → AV.rel w I x v → AV.rel w (fun b => I b ∨ b ∈ blks h) y v
def BorD (h : H) (x : AV) (d : D) : Prop := ∀ c I w v, Ok c I h w → AV.rel w I x v → Rel w (fun b => I b ∨ b ∈ blks h) d v
def Bors (h : H) : List AV → List AV → Prop
 | [], [] => True
 | x :: xs, y :: ys => Bor h x y ∧ Bors h xs ys
 | _, _ => False
def BorC (h : H) : List AV → List D → Prop
 | [], [] => True
 | x :: xs, y :: ys => BorD h x y ∧ BorC h xs ys
 | _, _ => False
theorem bor_same (h : H) (x : AV) : Bor h x x := fun _ _ _ _ _ hr => AV.rel_mono (fun _ _ => rfl) (fun _ h => .inl h) hr
theorem bord_d (h : H) (d : D) : BorD h (.d d) d := fun _ _ _ _ _ hr => Rel.mono (fun _ _ => rfl) (fun _ h => .inl h) hr
theorem bord_int (h : H) (n : Int) : BorD h (.int n) (.i .i64 n) := fun _ _ _ _ _ hr => by cases hr; exact .i _ _
theorem bord_bool (h : H) (b : Bool) : BorD h (.bool b) (.b b) := fun _ _ _ _ _ hr => by cases hr; exact .b _
theorem bors_rel {h : H} {c : Cx} {I : Nat → Prop} {w : World} (k : Ok c I h w) : ∀ {xs ys : List AV} {vs : List Value}, Bors h xs ys → AV.rels w I xs vs → AV.rels w (fun b => I b ∨ b ∈ blks h) ys vs
 | [], [], [], _, _ => trivial
 | _ :: _, _ :: _, _ :: _, ⟨h1, h2⟩, ⟨h3, h4⟩ => ⟨h1 _ _ _ _ k h3, bors_rel k h2 h4⟩
theorem borc_rel {h : H} {c : Cx} {I : Nat → Prop} {w : World} (k : Ok c I h w) : ∀ {xs : List AV} {ds : List D} {vs : List Value}, BorC h xs ds → AV.rels w I xs vs → ∀ (u : Nat) (d : D), ds[u]? = some d → ∃ v, vs[u]? = some v ∧ Rel w (fun b => I b ∨ b ∈ blks h) d v
 | [], [], _, _, _, u, d, hd => by simp at hd
 | x :: xs, y :: ys, v :: vs, ⟨h1, h2⟩, ⟨h3, h4⟩, u, d, hd => by
   cases u with
   | zero => simp at hd; subst hd; exact ⟨v, rfl, h1 _ _ _ _ k h3⟩
   | succ u => simpa using borc_rel k h2 h4 u d (by simpa using hd)
theorem bor_ptr {h : H} {b : Nat} {T : TypeId} {vs : List AV} {ds : List D} (hm : Ent.cells b T vs ∈ h) (hb : BorC h vs ds) : Bor h (.val (.pointer (some ⟨b, 0, none⟩))) (.pd ds) := by
 intro c I w v k hr
 obtain rfl : v = _ := hr
 obtain ⟨cs, hc1, hc2⟩ := k.ent _ hm
 refine ⟨_, rfl, .inr (mem_blks hm rfl), fun u x hx => ?_⟩
 obtain ⟨v, hv, hrv⟩ := borc_rel k hb hc2 u x hx
 refine ⟨v, ?_, hrv⟩
 rw [Addr.add_lit, Nat.zero_add, cell_of_row w b u cs T (0, 0) hc1]
 simpa using hv
/-- A row whose cells are known. -/
theorem bord_row {h : H} {b n : Nat} {E : TypeId} {vs : List AV} {sz eb : Nat} {rows : List (List D)} (hm : Ent.cells b E vs ∈ h) (h0 : 0 < sz) (hv : vs = rows.flatten.map D.av) (hn : rows.length = n) (hsz : ∀ r ∈ rows, r.length = sz) (hb : n * eb ≤ 140737488355328) (hx : n ≤ maxLen) :
 BorD h (.val (.slice (some ⟨b, 0, none⟩) n n)) (.l sz eb rows) := by
 intro c I w v k hr
 obtain rfl : v = _ := hr
 subst hv; subst hn
 obtain ⟨cs, hc1, hc2⟩ := k.ent _ hm
 have hcell : ∀ q x, rows.flatten[q]? = some x → ∃ c, w.cell? ((⟨b, 0, none⟩ : Addr).add q) = some c ∧ Rel w I x c := fun q x hx => by
  obtain ⟨c, hc3, hc4⟩ := AV.rels_get hc2 q x.av (by rw [List.getElem?_map, hx]; rfl)
  refine ⟨c, ?_, D.av_rel' hc4⟩
  rw [Addr.add_lit, Nat.zero_add, cell_of_row w b q cs E (0, 0) hc1]
  simpa using hc3
 have hq : ∀ (j u : Nat) (r : List D) (x : D), rows[j]? = some r → r[u]? = some x → rows.flatten[j * sz + u]? = some x := fun j u r x hr hx => by
  have hu : u < sz := by
   have := (List.getElem?_eq_some_iff.1 hx).1
   rwa [hsz r (List.mem_of_getElem? hr)] at this
  rw [flatten_get h0 rows hsz, Nat.add_comm, Nat.add_mul_div_right _ _ h0, Nat.add_mul_mod_self_right, Nat.div_eq_of_lt hu, Nat.mod_eq_of_lt hu, Nat.zero_add, hr]
  exact hx
 refine Rel.l sz eb rows ⟨b, 0, none⟩ rows.length (fun j u => (w.cell? ((⟨b, 0, none⟩ : Addr).add (j * sz + u))).getD undef) (.inr (mem_blks hm rfl)) (Nat.le_refl _) hx hb hsz (fun j u r x hr hx => ?_) (fun j u r x hr hx => ?_)
 · obtain ⟨c, hc3, _⟩ := hcell _ x (hq j u r x hr hx)
   simp only [hc3, Option.getD_some]
 · obtain ⟨c, hc3, hc4⟩ := hcell _ x (hq j u r x hr hx)
   simp only [hc3, Option.getD_some]
   exact hc4.mono (fun _ _ => rfl) fun _ h => .inl h

/-- Such a call leaves all that was there. -/
theorem AC.borrow {P : Program} {G : List (Nat × List D)} {f : FuncId} {xs args : List AV} {v : Value} {h : H} (hac : ACr P G f args (.val v)) (hb : Bors h xs args) {c : Cx} {I : Nat → Prop} {w : World} (k : Ok c I h w) (hG : c.G = G) {vs : List Value} (hr : AV.rels w I xs vs) :
 Calls P f vs.toArray w fun e w' => e = .returned v ∧ Same I h w w' := by
 refine (hac (fun b => I b ∨ b ∈ blks h) w vs (by simp) (by simp [blks]) (fun b hb' => ⟨?_, by simp [blks]⟩) (fun q hq => (k.glob q (by rw [hG]; exact hq)).mono (fun _ _ => rfl) fun _ h => .inl h) (bors_rel k hb hr)).mono ?_
 · rcases hb' with hb' | hb'
   · exact (k.imm b hb').1
   · obtain ⟨e, he, heb⟩ := List.mem_filterMap.1 hb'
     exact Ent.blk_lt (k.ent e he) heb
 · rintro e w' ⟨r, h', I', ⟨rfl, rfl⟩, hok', hrel⟩
   cases e with
   | returned u =>
     obtain rfl : u = v := hrel
     exact ⟨rfl, hok'.os, hok'.tape, hok'.output, hok'.size, fun b hb => hok'.keep b hb (by simp [blks])⟩
   | panicked ch => exact hrel.elim
   | outgrown => exact hrel.elim

theorem run_call_value {P : Program} {a : Act} {dst : Option Tmp} {x : Operand} {xs : Array Operand} {ats : Array TypeId} {ty : TypeId} {pos : String} {after : Array Edge} {g : Option (Nat × Bool)} {f : FuncId} {caps : Array Value} (hx : a.eval x = .func (.func f) #[] caps) (w : World) :
 (execOp a.eval ⟨dst, .call { callee := .value x, args := xs, argTypes := ats }, ty, pos, after, g⟩).run P w = (callFunc f ((xs.toList.map a.eval ++ caps.toList).toArray)).run P w := by
 simp [execOp, resolve, hx, Deferred.ofValue, invoke]
 congr 2
 apply Array.ext'; simp

theorem rels_vals' (w : World) (I : Nat → Prop) : ∀ vs : List Value, AV.rels w I (vs.map AV.val) vs
 | [] => trivial
 | _ :: vs => ⟨rfl, rels_vals' w I vs⟩
section
variable {k : Kx} {Q : Exit → Env → H → Prop} {ρ ρ' : Env} {h h' : H} {ops : Array Oper} {l : List Oper} {d tn : Nat} {ty : TypeId} {pos : String} {after : Array Edge}
theorem jbor {f : FuncId} {x : Operand} {xs : Array Operand} {ats : Array TypeId} {caps : Array Value} {es args : List AV} {v : Value} (hf : evO ρ x = some (.val (.func (.func f) #[] caps))) (hxs : evsO ρ xs.toList = some es) (hcal : Cal k.P f) (hac : ACr k.P k.c.G f args (.val v)) (hb : Bors h (es ++ caps.toList.map AV.val) args) (hd : Nat.blt d k.n = true)
 (hj : JL k ops l Q ((d, .val v) :: ρ) h) : JL k ops (⟨some d, .call { callee := .value x, args := xs, argTypes := ats }, ty, pos, after, none⟩ :: l) Q ρ h := by
 intro I a w h1 h2 h3
 refine wpList_plain rfl fun K hK => ?_
 unfold Oper.wp
 rw [run_call_value (rel_val (h2.ev x) (ev_of_evO hf)), hcal]
 simp only [Oper.upon]
 have hr : AV.rels w I (es ++ caps.toList.map AV.val) (xs.toList.map a.eval ++ caps.toList) := AV.rels_append (by rw [← evs_of_evsO hxs]; exact rels_evs h2 xs.toList) (rels_vals' w I _)
 refine (AC.borrow hac hb h1 rfl hr).mono ?_
 rintro e w' ⟨rfl, hs⟩
 exact hK _ _ (hj I _ w' (h1.same hs) ((SF.same h1 hs h2).put (fun t ht => by cases ht; exact blt hd) (r := .val v) rfl) (by rw [Act.defers_put]; exact h3))
theorem jqbor {f : FuncId} {x : Operand} {xs : Array Operand} {ats : Array TypeId} {caps : Array Value} {es args : List AV} {v : Value} (hf : evO ρ x = some (.val (.func (.func f) #[] caps))) (hxs : evsO ρ xs.toList = some es) (hcal : Cal k.P f) (hac : ACr k.P k.c.G f args (.val v)) (hb : Bors h (es ++ caps.toList.map AV.val) args) (hd : Nat.blt d k.n = true)
 (hj : JQ k ops tn l Q ((d, .val v) :: ρ) h) : JQ k ops (tn + 1) (⟨some d, .call { callee := .value x, args := xs, argTypes := ats }, ty, pos, after, none⟩ :: l) Q ρ h := by
 intro I a w h1 h2 h3
 rw [List.take_succ_cons]
 unfold wpQuiet
 rw [if_pos (by simp [Region.wanted])]
 refine ⟨v, fun w' hw' => ?_, hj I _ w h1 (h2.put (fun t ht => by cases ht; exact blt hd) (r := .val v) rfl) (by rw [Act.defers_put]; exact h3)⟩
 unfold Oper.quietAt
 rw [run_call_value (rel_val (h2.ev x) (ev_of_evO hf)), hcal]
 refine ⟨rfl, ?_⟩
 have h1' := h1.same hw'
 have h2' := SF.same h1 hw' h2
 have hr : AV.rels w' I (es ++ caps.toList.map AV.val) (xs.toList.map a.eval ++ caps.toList) := AV.rels_append (by rw [← evs_of_evsO hxs]; exact rels_evs h2' xs.toList) (rels_vals' w' I _)
 refine (AC.borrow hac hb h1' rfl hr).mono ?_
 rintro e w'' ⟨rfl, hs⟩
 exact ⟨rfl, hw'.trans hs⟩
end
section
variable {P : Program} {G : List (Nat × List D)} {ρ : Env} {h : H} {dst : Option Tmp} {ty : TypeId} {pos : String} {after : Array Edge} {g : Option (Nat × Bool)}
theorem pu_func2 {f : FuncId} {x y : Operand} {u v : Value} (hx : evO ρ x = some (.val u)) (hy : evO ρ y = some (.val v)) : Pure P G ⟨dst, .makeFunc (.func f) #[] #[x, y], ty, pos, after, g⟩ ρ h (.val (.func (.func f) #[] #[u, v])) :=
 pure_free fun w I _ a hs => ⟨_, rfl, fun w' => by
  have e1 := rel_val (hs.ev x) (ev_of_evO hx)
  have e2 := rel_val (hs.ev y) (ev_of_evO hy)
  simp [execOp, Instr.makeFunc, e1, e2]⟩
theorem pu_func3 {f : FuncId} {x y z : Operand} {u v t : Value} (hx : evO ρ x = some (.val u)) (hy : evO ρ y = some (.val v)) (hz : evO ρ z = some (.val t)) : Pure P G ⟨dst, .makeFunc (.func f) #[] #[x, y, z], ty, pos, after, g⟩ ρ h (.val (.func (.func f) #[] #[u, v, t])) :=
 pure_free fun w I _ a hs => ⟨_, rfl, fun w' => by
  have e1 := rel_val (hs.ev x) (ev_of_evO hx)
  have e2 := rel_val (hs.ev y) (ev_of_evO hy)
  have e3 := rel_val (hs.ev z) (ev_of_evO hz)
  simp [execOp, Instr.makeFunc, e1, e2, e3]⟩
end
end Go.Av
