/-
  PLAIN, NO PROGRAM: closures, and calls that read what the caller still writes on (over Ay).
-/
import Derived.Test.YtffdlpjbbkhcnaaAy
namespace Go.Av
open Go

/-- What the caller itself made, shown to a callee as data for the time of the call. -/
def Bor (h : H) (x y : AV) : Prop := ∀ c I w v, Ok c I h w → AV.rel w I x v → AV.rel w (fun b => I b ∨ b ∈ blks h) y v
def BorD (h : H) (x : AV) (d : D) : Prop := ∀ c I w v, Ok c I h w → AV.rel w I x v → Rel w (fun b => I b ∨ b ∈ blks h) d v
def Bors (h : H) : List AV → List AV → Prop
  | [], [] => True
  | x :: xs, y :: ys => Bor h x y ∧ Bors h xs ys
  | _, _ => False
def BorC (h : H) : List AV → List D → Prop
  | [], [] => True
  | x :: xs, y :: ys => BorD h x y ∧ BorC h xs ys
  | _, _ => False
theorem bor_same (h : H) (x : AV) : Bor h x x := fun _ _ _ _ _ hr => AV.rel_mono (fun _ _ => rfl) (fun _ h => .inl h) hr
theorem bord_d (h : H) (d : D) : BorD h (.d d) d := fun _ _ _ _ _ hr => Rel.mono (fun _ _ => rfl) (fun _ h => .inl h) hr
theorem bord_int (h : H) (n : Int) : BorD h (.int n) (.i .i64 n) := fun _ _ _ _ _ hr => by cases hr; exact .i _ _
theorem bord_bool (h : H) (b : Bool) : BorD h (.bool b) (.b b) := fun _ _ _ _ _ hr => by cases hr; exact .b _
theorem bors_rel {h : H} {c : Cx} {I : Nat → Prop} {w : World} (k : Ok c I h w) : ∀ {xs ys : List AV} {vs : List Value}, Bors h xs ys → AV.rels w I xs vs → AV.rels w (fun b => I b ∨ b ∈ blks h) ys vs
  | [], [], [], _, _ => trivial
  | _ :: _, _ :: _, _ :: _, ⟨h1, h2⟩, ⟨h3, h4⟩ => ⟨h1 _ _ _ _ k h3, bors_rel k h2 h4⟩
theorem borc_rel {h : H} {c : Cx} {I : Nat → Prop} {w : World} (k : Ok c I h w) : ∀ {xs : List AV} {ds : List D} {vs : List Value}, BorC h xs ds → AV.rels w I xs vs → ∀ (u : Nat) (d : D), ds[u]? = some d → ∃ v, vs[u]? = some v ∧ Rel w (fun b => I b ∨ b ∈ blks h) d v
  | [], [], _, _, _, u, d, hd => by simp at hd
  | x :: xs, y :: ys, v :: vs, ⟨h1, h2⟩, ⟨h3, h4⟩, u, d, hd => by
    cases u with
    | zero => simp at hd; subst hd; exact ⟨v, rfl, h1 _ _ _ _ k h3⟩
    | succ u => simpa using borc_rel k h2 h4 u d (by simpa using hd)
theorem mem_blks {h : H} {e : Ent} {b : Nat} (hm : e ∈ h) (hb : e.blk = some b) : b ∈ blks h := List.mem_filterMap.2 ⟨e, hm, hb⟩
theorem bor_ptr {h : H} {b : Nat} {T : TypeId} {vs : List AV} {ds : List D} (hm : Ent.cells b T vs ∈ h) (hb : BorC h vs ds) : Bor h (.val (.pointer (some ⟨b, 0, none⟩))) (.pd ds) := by
  intro c I w v k hr
  obtain rfl : v = _ := hr
  obtain ⟨cs, hc1, hc2⟩ := k.ent _ hm
  refine ⟨_, rfl, .inr (mem_blks hm rfl), fun u x hx => ?_⟩
  obtain ⟨v, hv, hrv⟩ := borc_rel k hb hc2 u x hx
  refine ⟨v, ?_, hrv⟩
  rw [Addr.add_lit, Nat.zero_add, cell_of_row w b u cs T (0, 0) hc1]
  simpa using hv
/-- A row whose cells are known. -/
theorem bord_row {h : H} {b n : Nat} {E : TypeId} {vs : List AV} {sz eb : Nat} {rows : List (List D)} (hm : Ent.cells b E vs ∈ h) (h0 : 0 < sz) (hv : vs = rows.flatten.map D.av) (hn : rows.length = n) (hsz : ∀ r ∈ rows, r.length = sz) (hb : n * eb ≤ 140737488355328) (hx : n ≤ maxLen) :
    BorD h (.val (.slice (some ⟨b, 0, none⟩) n n)) (.l sz eb rows) := by
  intro c I w v k hr
  obtain rfl : v = _ := hr
  subst hv; subst hn
  obtain ⟨cs, hc1, hc2⟩ := k.ent _ hm
  have hcell : ∀ q x, rows.flatten[q]? = some x → ∃ c, w.cell? ((⟨b, 0, none⟩ : Addr).add q) = some c ∧ Rel w I x c := fun q x hx => by
    obtain ⟨c, hc3, hc4⟩ := AV.rels_get hc2 q x.av (by rw [List.getElem?_map, hx]; rfl)
    refine ⟨c, ?_, D.av_rel' hc4⟩
    rw [Addr.add_lit, Nat.zero_add, cell_of_row w b q cs E (0, 0) hc1]
    simpa using hc3
  have hq : ∀ (j u : Nat) (r : List D) (x : D), rows[j]? = some r → r[u]? = some x → rows.flatten[j * sz + u]? = some x := fun j u r x hr hx => by
    have hu : u < sz := by
      have := (List.getElem?_eq_some_iff.1 hx).1
      rwa [hsz r (List.mem_of_getElem? hr)] at this
    rw [flatten_get h0 rows hsz, Nat.add_comm, Nat.add_mul_div_right _ _ h0, Nat.add_mul_mod_self_right, Nat.div_eq_of_lt hu, Nat.mod_eq_of_lt hu, Nat.zero_add, hr]
    exact hx
  refine Rel.l sz eb rows ⟨b, 0, none⟩ rows.length (fun j u => (w.cell? ((⟨b, 0, none⟩ : Addr).add (j * sz + u))).getD undef) (.inr (mem_blks hm rfl)) (Nat.le_refl _) hx hb hsz (fun j u r x hr hx => ?_) (fun j u r x hr hx => ?_)
  · obtain ⟨c, hc3, _⟩ := hcell _ x (hq j u r x hr hx)
    simp only [hc3, Option.getD_some]
  · obtain ⟨c, hc3, hc4⟩ := hcell _ x (hq j u r x hr hx)
    simp only [hc3, Option.getD_some]
    exact hc4.mono (fun _ _ => rfl) fun _ h => .inl h

/-- Such a call leaves all that was there. -/
theorem AC.borrow {P : Program} {G : List (Nat × List D)} {f : FuncId} {xs args : List AV} {v : Value} {h : H} (hac : ACr P G f args (.val v)) (hb : Bors h xs args) {c : Cx} {I : Nat → Prop} {w : World} (k : Ok c I h w) (hG : c.G = G) {vs : List Value} (hr : AV.rels w I xs vs) :
    Calls P f vs.toArray w fun e w' => e = .returned v ∧ Same I h w w' := by
  refine (hac (fun b => I b ∨ b ∈ blks h) w vs (by simp) (by simp [blks]) (fun b hb' => ⟨?_, by simp [blks]⟩) (fun q hq => (k.glob q (by rw [hG]; exact hq)).mono (fun _ _ => rfl) fun _ h => .inl h) (bors_rel k hb hr)).mono ?_
  · rcases hb' with hb' | hb'
    · exact (k.imm b hb').1
    · obtain ⟨e, he, heb⟩ := List.mem_filterMap.1 hb'
      exact Ent.blk_lt (k.ent e he) heb
  · rintro e w' ⟨r, h', I', ⟨rfl, rfl⟩, hok', hrel⟩
    cases e with
    | returned u =>
      obtain rfl : u = v := hrel
      exact ⟨rfl, hok'.os, hok'.tape, hok'.output, hok'.size, fun b hb => hok'.keep b hb (by simp [blks])⟩
    | panicked ch => exact hrel.elim
    | outgrown => exact hrel.elim

theorem run_call_value {P : Program} {a : Act} {dst : Option Tmp} {x : Operand} {xs : Array Operand} {ats : Array TypeId} {ty : TypeId} {pos : String} {after : Array Edge} {g : Option (Nat × Bool)} {f : FuncId} {caps : Array Value} (hx : a.eval x = .func (.func f) #[] caps) (w : World) :
    (execOp a.eval ⟨dst, .call { callee := .value x, args := xs, argTypes := ats }, ty, pos, after, g⟩).run P w = (callFunc f ((xs.toList.map a.eval ++ caps.toList).toArray)).run P w := by
  simp [execOp, resolve, hx, Deferred.ofValue, invoke]
  congr 2
  apply Array.ext'; simp

theorem rels_vals' (w : World) (I : Nat → Prop) : ∀ vs : List Value, AV.rels w I (vs.map AV.val) vs
  | [] => trivial
  | _ :: vs => ⟨rfl, rels_vals' w I vs⟩
section
variable {k : Kx} {Q : Exit → Env → H → Prop} {ρ ρ' : Env} {h h' : H} {ops : Array Oper} {l : List Oper} {d tn : Nat} {ty : TypeId} {pos : String} {after : Array Edge}
theorem jbor {f : FuncId} {x : Operand} {xs : Array Operand} {ats : Array TypeId} {caps : Array Value} {es args : List AV} {v : Value} (hf : evO ρ x = some (.val (.func (.func f) #[] caps))) (hxs : evsO ρ xs.toList = some es) (hcal : Cal k.P f) (hac : ACr k.P k.c.G f args (.val v)) (hb : Bors h (es ++ caps.toList.map AV.val) args) (hd : Nat.blt d k.n = true)
    (hj : JL k ops l Q ((d, .val v) :: ρ) h) : JL k ops (⟨some d, .call { callee := .value x, args := xs, argTypes := ats }, ty, pos, after, none⟩ :: l) Q ρ h := by
  intro I a w h1 h2 h3
  refine wpList_plain rfl fun K hK => ?_
  unfold Oper.wp
  rw [run_call_value (rel_val (h2.ev x) (ev_of_evO hf)), hcal]
  simp only [Oper.upon]
  have hr : AV.rels w I (es ++ caps.toList.map AV.val) (xs.toList.map a.eval ++ caps.toList) := AV.rels_append (by rw [← evs_of_evsO hxs]; exact rels_evs h2 xs.toList) (rels_vals' w I _)
  refine (AC.borrow hac hb h1 rfl hr).mono ?_
  rintro e w' ⟨rfl, hs⟩
  exact hK _ _ (hj I _ w' (h1.same hs) ((SF.same h1 hs h2).put (fun t ht => by cases ht; exact blt hd) (r := .val v) rfl) (by rw [Act.defers_put]; exact h3))
theorem jqbor {f : FuncId} {x : Operand} {xs : Array Operand} {ats : Array TypeId} {caps : Array Value} {es args : List AV} {v : Value} (hf : evO ρ x = some (.val (.func (.func f) #[] caps))) (hxs : evsO ρ xs.toList = some es) (hcal : Cal k.P f) (hac : ACr k.P k.c.G f args (.val v)) (hb : Bors h (es ++ caps.toList.map AV.val) args) (hd : Nat.blt d k.n = true)
    (hj : JQ k ops tn l Q ((d, .val v) :: ρ) h) : JQ k ops (tn + 1) (⟨some d, .call { callee := .value x, args := xs, argTypes := ats }, ty, pos, after, none⟩ :: l) Q ρ h := by
  intro I a w h1 h2 h3
  rw [List.take_succ_cons]
  unfold wpQuiet
  rw [if_pos (by simp [Region.wanted])]
  refine ⟨v, fun w' hw' => ?_, hj I _ w h1 (h2.put (fun t ht => by cases ht; exact blt hd) (r := .val v) rfl) (by rw [Act.defers_put]; exact h3)⟩
  unfold Oper.quietAt
  rw [run_call_value (rel_val (h2.ev x) (ev_of_evO hf)), hcal]
  refine ⟨rfl, ?_⟩
  have h1' := h1.same hw'
  have h2' := SF.same h1 hw' h2
  have hr : AV.rels w' I (es ++ caps.toList.map AV.val) (xs.toList.map a.eval ++ caps.toList) := AV.rels_append (by rw [← evs_of_evsO hxs]; exact rels_evs h2' xs.toList) (rels_vals' w' I _)
  refine (AC.borrow hac hb h1' rfl hr).mono ?_
  rintro e w'' ⟨rfl, hs⟩
  exact ⟨rfl, hw'.trans hs⟩
end
section
variable {P : Program} {G : List (Nat × List D)} {ρ : Env} {h : H} {dst : Option Tmp} {ty : TypeId} {pos : String} {after : Array Edge} {g : Option (Nat × Bool)}
theorem pu_func2 {f : FuncId} {x y : Operand} {u v : Value} (hx : evO ρ x = some (.val u)) (hy : evO ρ y = some (.val v)) : Pure P G ⟨dst, .makeFunc (.func f) #[] #[x, y], ty, pos, after, g⟩ ρ h (.val (.func (.func f) #[] #[u, v])) :=
  pure_free fun w I _ a hs => ⟨_, rfl, fun w' => by
    have e1 := rel_val (hs.ev x) (ev_of_evO hx)
    have e2 := rel_val (hs.ev y) (ev_of_evO hy)
    simp [execOp, Instr.makeFunc, e1, e2]⟩
theorem pu_func3 {f : FuncId} {x y z : Operand} {u v t : Value} (hx : evO ρ x = some (.val u)) (hy : evO ρ y = some (.val v)) (hz : evO ρ z = some (.val t)) : Pure P G ⟨dst, .makeFunc (.func f) #[] #[x, y, z], ty, pos, after, g⟩ ρ h (.val (.func (.func f) #[] #[u, v, t])) :=
  pure_free fun w I _ a hs => ⟨_, rfl, fun w' => by
    have e1 := rel_val (hs.ev x) (ev_of_evO hx)
    have e2 := rel_val (hs.ev y) (ev_of_evO hy)
    have e3 := rel_val (hs.ev z) (ev_of_evO hz)
    simp [execOp, Instr.makeFunc, e1, e2, e3]⟩
end
end Go.Av
