/-
  PLAIN, NO PROGRAM: small steps for a walk (over As).
-/
import Derived.Test.YtffdlpjbbkhcnaaAs
namespace Go.Av
open Go

section
variable {k : Kx} {Q : Exit → Env → H → Prop} {N : Env → H → Prop} {ρ ρ' : Env} {h h' : H} {ops : Array Oper} {l : List Oper} {d : Nat} {op : Op} {ty : TypeId} {pos : String} {after : Array Edge} {id id' : Nat} {ch : List PanicEntry}

theorem blt {a b : Nat} (h : Nat.blt a b = true) : a < b := Nat.le_of_ble_eq_true h
theorem tq_normal (h1 : N ρ h) : thenQ N Q .normal ρ h := h1
theorem tq_ret (h1 : Q .ret ρ h) : thenQ N Q .ret ρ h := h1
theorem tq_exit (h1 : Q (.exit id) ρ h) : thenQ N Q (.exit id) ρ h := h1
theorem tq_panic (h1 : Q (.panic ch) ρ h) : thenQ N Q (.panic ch) ρ h := h1
theorem bq_normal (h1 : Q .normal ρ h) : blockQ id Q .normal ρ h := h1
theorem bq_ret (h1 : Q .ret ρ h) : blockQ id Q .ret ρ h := h1
theorem bq_panic (h1 : Q (.panic ch) ρ h) : blockQ id Q (.panic ch) ρ h := h1
theorem bq_exit (h1 : Q .normal ρ h) : blockQ id Q (.exit id) ρ h := by simp only [blockQ, if_true]; exact h1
theorem bq_exit' (hne : id' ≠ id) (h1 : Q (.exit id') ρ h) : blockQ id Q (.exit id') ρ h := by simp only [blockQ, if_neg hne]; exact h1

theorem jp {r : AV} (hp : Pure k.P k.c.G ⟨some d, op, ty, pos, after, none⟩ ρ h r) (hd : Nat.blt d k.n = true) (hj : JL k ops l Q ((d, r) :: ρ) h) : JL k ops (⟨some d, op, ty, pos, after, none⟩ :: l) Q ρ h :=
  JL_pure hp rfl (fun t ht => by cases ht; exact blt hd) hj
theorem jqp {tn : Nat} {r : AV} (hp : Pure k.P k.c.G ⟨some d, op, ty, pos, after, none⟩ ρ h r) (hd : Nat.blt d k.n = true) (hj : JQ k ops tn l Q ((d, r) :: ρ) h) : JQ k ops (tn + 1) (⟨some d, op, ty, pos, after, none⟩ :: l) Q ρ h :=
  JQ_pure hp rfl (fun t ht => by cases ht; exact blt hd) hj
theorem jgy {j dj : Nat} {want : Bool} {oj : Oper} (hj : ops[j]? = some oj) (hdj : oj.dst = some dj) (hr : get ρ dj = .val (.bool want)) (hn : Nat.blt dj k.n = true) (hy : JL k ops (⟨some d, op, ty, pos, after, none⟩ :: l) Q ρ h) : JL k ops (⟨some d, op, ty, pos, after, some (j, want)⟩ :: l) Q ρ h :=
  JL_guard_yes rfl hj hdj hr (blt hn) hy
theorem jgn {j dj : Nat} {want b : Bool} {oj : Oper} (hj : ops[j]? = some oj) (hdj : oj.dst = some dj) (hr : get ρ dj = .val (.bool b)) (hn : Nat.blt dj k.n = true) (hd : Nat.blt d k.n = true) (hb : b = !want) (hno : JL k ops l Q ((d, .val undef) :: ρ) h) : JL k ops (⟨some d, op, ty, pos, after, some (j, want)⟩ :: l) Q ρ h :=
  JL_guard_no rfl hj hdj hr (blt hn) (fun t ht => by cases ht; exact blt hd) hb hno
theorem jqy {tn : Nat} {j dj : Nat} {want : Bool} {oj : Oper} (hj : ops[j]? = some oj) (hdj : oj.dst = some dj) (hr : get ρ dj = .val (.bool want)) (hn : Nat.blt dj k.n = true) (hy : JQ k ops (tn + 1) (⟨some d, op, ty, pos, after, none⟩ :: l) Q ρ h) : JQ k ops (tn + 1) (⟨some d, op, ty, pos, after, some (j, want)⟩ :: l) Q ρ h :=
  JQ_guard_yes rfl hj hdj hr (blt hn) hy
theorem jqn {tn : Nat} {j dj : Nat} {want b : Bool} {oj : Oper} (hj : ops[j]? = some oj) (hdj : oj.dst = some dj) (hr : get ρ dj = .val (.bool b)) (hn : Nat.blt dj k.n = true) (hd : Nat.blt d k.n = true) (hb : b = !want) (hno : JQ k ops tn l Q ((d, .val undef) :: ρ) h) : JQ k ops (tn + 1) (⟨some d, op, ty, pos, after, some (j, want)⟩ :: l) Q ρ h :=
  JQ_guard_no rfl hj hdj hr (blt hn) (fun t ht => by cases ht; exact blt hd) hb hno

theorem jgu {j dj : Nat} {want : Bool} {oj : Oper} (hj : ops[j]? = some oj) (hdj : oj.dst = some dj) (hr : get ρ dj = .val undef) (hd : Nat.blt d k.n = true) (hno : JL k ops l Q ((d, .val undef) :: ρ) h) : JL k ops (⟨some d, op, ty, pos, after, some (j, want)⟩ :: l) Q ρ h :=
  JL_guard_un rfl hj hdj hr (fun t ht => by cases ht; exact blt hd) hno
theorem jqu {tn : Nat} {j dj : Nat} {want : Bool} {oj : Oper} (hj : ops[j]? = some oj) (hdj : oj.dst = some dj) (hr : get ρ dj = .val undef) (hd : Nat.blt d k.n = true) (hno : JQ k ops tn l Q ((d, .val undef) :: ρ) h) : JQ k ops (tn + 1) (⟨some d, op, ty, pos, after, some (j, want)⟩ :: l) Q ρ h :=
  JQ_guard_un rfl hj hdj hr (fun t ht => by cases ht; exact blt hd) hno
theorem len_nil : ([] : List Oper).length = 0 := rfl
theorem len_cons {o : Oper} {l : List Oper} {m : Nat} (h : l.length = m) : (o :: l).length = m + 1 := by rw [List.length_cons, h]
/-- A test, both ways. -/
def CB (b : Bool) (A B : Prop) : Prop := (b = true → A) ∧ (b = false → B)
theorem cb_true {A B : Prop} (h1 : A) : CB true A B := ⟨fun _ => h1, fun h => by cases h⟩
theorem cb_false {A B : Prop} (h1 : B) : CB false A B := ⟨(fun h => by cases h), fun _ => h1⟩
theorem cb_dec {p : Prop} [Decidable p] {A B : Prop} (h1 : p → A) (h2 : ¬ p → B) : CB (decide p) A B := ⟨fun h => h1 (of_decide_eq_true h), fun h => h2 (of_decide_eq_false h)⟩
theorem cb_not {b : Bool} {A B : Prop} (h1 : CB b B A) : CB (!b) A B := ⟨fun h => h1.2 (by simpa using h), fun h => h1.1 (by simpa using h)⟩
theorem cb_split {b : Bool} {A B : Prop} (h1 : b = true → A) (h2 : b = false → B) : CB b A B := ⟨h1, h2⟩
theorem JQ_le {tn : Nat} (hle : Env.le ρ ρ') (hj : JQ k ops tn l Q ρ' h) : JQ k ops tn l Q ρ h := fun I a w h1 h2 h3 => hj I a w h1 (h2.le hle) h3
theorem jgt {j dj : Nat} {b : Bool} {oj : Oper} (hj : ops[j]? = some oj) (hdj : oj.dst = some dj) (hr : get ρ dj = .val (.bool b)) (hn : Nat.blt dj k.n = true) (hd : Nat.blt d k.n = true)
    (hb : CB b (JL k ops (⟨some d, op, ty, pos, after, none⟩ :: l) Q ((dj, .bool true) :: ρ) h) (JL k ops l Q ((d, .val undef) :: (dj, .bool false) :: ρ) h)) : JL k ops (⟨some d, op, ty, pos, after, some (j, true)⟩ :: l) Q ρ h := by
  cases b with
  | true => exact JL_le (Env.le_cons (AV.le_of_eq hr) (Env.le_refl _)) (jgy hj hdj (by simp [get]) hn (hb.1 rfl))
  | false => exact JL_le (Env.le_cons (AV.le_of_eq hr) (Env.le_refl _)) (jgn hj hdj (b := false) (by simp [get]) hn hd rfl (hb.2 rfl))
theorem jgf {j dj : Nat} {b : Bool} {oj : Oper} (hj : ops[j]? = some oj) (hdj : oj.dst = some dj) (hr : get ρ dj = .val (.bool b)) (hn : Nat.blt dj k.n = true) (hd : Nat.blt d k.n = true)
    (hb : CB b (JL k ops l Q ((d, .val undef) :: (dj, .bool true) :: ρ) h) (JL k ops (⟨some d, op, ty, pos, after, none⟩ :: l) Q ((dj, .bool false) :: ρ) h)) : JL k ops (⟨some d, op, ty, pos, after, some (j, false)⟩ :: l) Q ρ h := by
  cases b with
  | true => exact JL_le (Env.le_cons (AV.le_of_eq hr) (Env.le_refl _)) (jgn hj hdj (b := true) (by simp [get]) hn hd rfl (hb.1 rfl))
  | false => exact JL_le (Env.le_cons (AV.le_of_eq hr) (Env.le_refl _)) (jgy hj hdj (by simp [get]) hn (hb.2 rfl))
theorem jqt {tn : Nat} {j dj : Nat} {b : Bool} {oj : Oper} (hj : ops[j]? = some oj) (hdj : oj.dst = some dj) (hr : get ρ dj = .val (.bool b)) (hn : Nat.blt dj k.n = true) (hd : Nat.blt d k.n = true)
    (hb : CB b (JQ k ops (tn + 1) (⟨some d, op, ty, pos, after, none⟩ :: l) Q ((dj, .bool true) :: ρ) h) (JQ k ops tn l Q ((d, .val undef) :: (dj, .bool false) :: ρ) h)) : JQ k ops (tn + 1) (⟨some d, op, ty, pos, after, some (j, true)⟩ :: l) Q ρ h := by
  cases b with
  | true => exact JQ_le (Env.le_cons (AV.le_of_eq hr) (Env.le_refl _)) (jqy hj hdj (by simp [get]) hn (hb.1 rfl))
  | false => exact JQ_le (Env.le_cons (AV.le_of_eq hr) (Env.le_refl _)) (jqn hj hdj (b := false) (by simp [get]) hn hd rfl (hb.2 rfl))
theorem jqf {tn : Nat} {j dj : Nat} {b : Bool} {oj : Oper} (hj : ops[j]? = some oj) (hdj : oj.dst = some dj) (hr : get ρ dj = .val (.bool b)) (hn : Nat.blt dj k.n = true) (hd : Nat.blt d k.n = true)
    (hb : CB b (JQ k ops tn l Q ((d, .val undef) :: (dj, .bool true) :: ρ) h) (JQ k ops (tn + 1) (⟨some d, op, ty, pos, after, none⟩ :: l) Q ((dj, .bool false) :: ρ) h)) : JQ k ops (tn + 1) (⟨some d, op, ty, pos, after, some (j, false)⟩ :: l) Q ρ h := by
  cases b with
  | true => exact JQ_le (Env.le_cons (AV.le_of_eq hr) (Env.le_refl _)) (jqn hj hdj (b := true) (by simp [get]) hn hd rfl (hb.1 rfl))
  | false => exact JQ_le (Env.le_cons (AV.le_of_eq hr) (Env.le_refl _)) (jqy hj hdj (by simp [get]) hn (hb.2 rfl))
theorem jcond {t : Nat} {x y : Code} {b : Bool} (hc : get ρ t = .val (.bool b)) (hb : CB b (J k x Q ((t, .bool true) :: ρ) h) (J k y Q ((t, .bool false) :: ρ) h)) : J k (.cond (.tmp t) x y) Q ρ h :=
  J_cond (o := .tmp t) hc (fun e => J_le (Env.le_cons (AV.le_of_eq (by rw [hc, e])) (Env.le_refl _)) (hb.1 e)) (fun e => J_le (Env.le_cons (AV.le_of_eq (by rw [hc, e])) (Env.le_refl _)) (hb.2 e))

end

def getO : Env → Nat → Option AV
  | [], _ => none
  | (k, v) :: r, t => bif Nat.beq k t then some v else getO r t
def evO (ρ : Env) : Operand → Option AV
  | .tmp t => getO ρ t
  | .const v => some (.val v)
  | .global g => some (.val (.pointer (some ⟨g, 0, none⟩)))
  | .func f => some (.val (.func (.func f) #[] #[]))
theorem get_of_getO : ∀ {ρ : Env} {t : Nat} {r : AV}, getO ρ t = some r → get ρ t = r
  | (k, v) :: ρ, t, r, h => by
    simp only [getO] at h
    simp only [get]
    cases hb : Nat.beq k t with
    | true => rw [hb] at h; simpa using h
    | false => rw [hb] at h; exact get_of_getO h
theorem ev_of_evO {ρ : Env} {x : Operand} {r : AV} (h : evO ρ x = some r) : ev ρ x = r := by
  cases x with
  | tmp t => exact get_of_getO h
  | const v => cases h; rfl
  | global g => cases h; rfl
  | func f => cases h; rfl

section
variable {k : Kx} {Q : Exit → Env → H → Prop} {ρ : Env} {h : H} {ops : Array Oper} {l : List Oper}
theorem jfact {α : Type} {x : Code} {t sz eb : Nat} {f : α → List D} {xs : List α} (ht : get ρ t = .d (.l sz eb (xs.map f))) (hj : xs.length * eb ≤ 140737488355328 → J k x Q ρ h) : J k x Q ρ h :=
  J_fact ht fun hl => hj (by rwa [List.length_map] at hl)
theorem jlfact {α : Type} {t sz eb : Nat} {f : α → List D} {xs : List α} (ht : get ρ t = .d (.l sz eb (xs.map f))) (hj : xs.length * eb ≤ 140737488355328 → JL k ops l Q ρ h) : JL k ops l Q ρ h :=
  JL_fact ht fun hl => hj (by rwa [List.length_map] at hl)
end

section
variable {Q : AE → H → Prop} {ρ : Env} {h : H} {a b c : Nat} {x y z : AV} {e : Exit}
def retE (e : Exit) : Bool := match e with | .ret => true | .normal => true | _ => false
theorem rq_of {ts : List Tmp} (he : retE e = true) (hq : Q (.ret (resAV ρ ts)) h) : retQ ts Q e ρ h := by cases e <;> first | exact hq | cases he
theorem rq0 (he : retE e = true) (hq : Q (.ret (.tup [])) h) : retQ [] Q e ρ h := rq_of he hq
theorem rq1 (he : retE e = true) (h1 : getO ρ a = some x) (hq : Q (.ret x) h) : retQ [a] Q e ρ h := rq_of he (by simp only [resAV, get_of_getO h1]; exact hq)
theorem rq2 (he : retE e = true) (h1 : getO ρ a = some x) (h2 : getO ρ b = some y) (hq : Q (.ret (.tup [x, y])) h) : retQ [a, b] Q e ρ h := rq_of he (by simp only [resAV, List.map_cons, List.map_nil, get_of_getO h1, get_of_getO h2]; exact hq)
theorem rq3 (he : retE e = true) (h1 : getO ρ a = some x) (h2 : getO ρ b = some y) (h3 : getO ρ c = some z) (hq : Q (.ret (.tup [x, y, z])) h) : retQ [a, b, c] Q e ρ h := rq_of he (by simp only [resAV, List.map_cons, List.map_nil, get_of_getO h1, get_of_getO h2, get_of_getO h3]; exact hq)
theorem ret_eq {r r' : AV} (hr : r = r') : AE.ret r = AE.ret r' ∧ ([] : H) = [] := ⟨by rw [hr], rfl⟩
end

theorem tup3 {a b c a' b' c' : Bool} (h1 : a = a') (h2 : b = b') (h3 : c = c') : AV.tup [.bool a, .bool b, .bool c] = AV.tup [.bool a', .bool b', .bool c'] := by rw [h1, h2, h3]
def evsO (ρ : Env) : List Operand → Option (List AV)
  | [] => some []
  | x :: xs => (evO ρ x).bind fun r => (evsO ρ xs).bind fun rs => some (r :: rs)
theorem evs_of_evsO {ρ : Env} : ∀ {xs : List Operand} {rs : List AV}, evsO ρ xs = some rs → xs.map (ev ρ) = rs
  | [], rs, h => by cases h; rfl
  | x :: xs, rs, h => by
    simp only [evsO] at h
    cases h1 : evO ρ x with
    | none => rw [h1] at h; cases h
    | some r =>
      cases h2 : evsO ρ xs with
      | none => rw [h1, h2] at h; cases h
      | some rs' =>
        rw [h1, h2] at h
        cases h
        simp [ev_of_evO h1, evs_of_evsO h2]
theorem AV.le_int {x : AV} {a b : Int} (hx : x = .int a) (hab : a = b) : AV.le x (.int b) := AV.le_of_eq (by rw [hx, hab])
theorem AV.le_bool {x : AV} {a b : Bool} (hx : x = .bool a) (hab : a = b) : AV.le x (.bool b) := AV.le_of_eq (by rw [hx, hab])
theorem AV.le_rows {x : AV} {sz eb : Nat} {a b : List (List D)} (hx : x = .d (.l sz eb a)) (hab : a = b) : AV.le x (.d (.l sz eb b)) := AV.le_of_eq (by rw [hx, hab])

section
variable {k : Kx} {Q : Exit → Env → H → Prop} {ρ : Env} {h hc hr : H} {ops : Array Oper} {l : List Oper} {d : Nat} {dst : Option Tmp} {ty : TypeId} {pos : String} {after : Array Edge}
theorem call0 {f : FuncId} {xs : Array Operand} {ats : Array TypeId} {args : List AV} {r : AV} (hargs : evsO ρ xs.toList = some args) (hcal : Cal k.P f) (hac : ACr k.P k.c.G f args r) (hd : Nat.blt d k.n = true) (hret : JL k ops l Q ((d, r) :: ρ) h) :
    JL k ops (⟨some d, .call { callee := .value (.func f), args := xs, argTypes := ats }, ty, pos, after, none⟩ :: l) Q ρ h :=
  JL_call0 hcal hac (by rw [evs_of_evsO hargs]; exact AVs.le_refl _) (fun t ht => by cases ht; exact blt hd) hret
theorem qcall {tn : Nat} {f : FuncId} {xs : Array Operand} {ats : Array TypeId} {args : List AV} {v : Value} (hargs : evsO ρ xs.toList = some args) (hcal : Cal k.P f) (hac : ACr k.P k.c.G f args (.val v)) (hd : Nat.blt d k.n = true) (hret : JQ k ops tn l Q ((d, .val v) :: ρ) h) :
    JQ k ops (tn + 1) (⟨some d, .call { callee := .value (.func f), args := xs, argTypes := ats }, ty, pos, after, none⟩ :: l) Q ρ h :=
  JQ_call hcal hac (by rw [evs_of_evsO hargs]; exact AVs.le_refl _) (fun t ht => by cases ht; exact blt hd) hret
theorem callw {f : FuncId} {xs : Array Operand} {ats : Array TypeId} {args : List AV} {R : AE → H → Prop} (hargs : evsO ρ xs.toList = some args) (hcal : Cal k.P f) (hs : h = hc ++ hr) (hac : AC k.P k.c.G f args hc R) (hd : Nat.blt d k.n = true)
    (hret : ∀ r h', R (.ret r) h' → JL k ops l Q ((d, r) :: ρ) (h' ++ hr)) (hpan : ∀ ch h', R (.pan ch) h' → Q (.panic ch) ρ (h' ++ hr)) :
    JL k ops (⟨some d, .call { callee := .value (.func f), args := xs, argTypes := ats }, ty, pos, after, none⟩ :: l) Q ρ h :=
  JL_call hcal hac (by rw [evs_of_evsO hargs]; exact AVs.le_refl _) hs (fun t ht => by cases ht; exact blt hd) hret hpan
end

section
variable {P : Program} {G : List (Nat × List D)} {ρ : Env} {h : H} {dst : Option Tmp} {ty : TypeId} {pos : String} {after : Array Edge} {g : Option (Nat × Bool)}
theorem pu_move {x : Operand} {r : AV} (hx : evO ρ x = some r) : Pure P G ⟨dst, .move x, ty, pos, after, g⟩ ρ h r := pure_move (ev_of_evO hx)
theorem pu_assign {x : Operand} {r : AV} (hx : evO ρ x = some r) : Pure P G ⟨dst, .assign x, ty, pos, after, g⟩ ρ h r := pure_assign (ev_of_evO hx)
theorem pu_pick_true {c x y : Operand} {r : AV} (hc : ev ρ c = .val (.bool true)) (hx : evO ρ x = some r) : Pure P G ⟨dst, .pick c x y, ty, pos, after, g⟩ ρ h r := pure_pick_true hc (ev_of_evO hx)
theorem pu_pick_false {c x y : Operand} {r : AV} (hc : ev ρ c = .val (.bool false)) (hx : evO ρ y = some r) : Pure P G ⟨dst, .pick c x y, ty, pos, after, g⟩ ρ h r := pure_pick_false hc (ev_of_evO hx)
theorem pu_len {α : Type} {T E : TypeId} {x : Operand} {sz eb : Nat} {f : α → List D} {xs : List α} (hT : P.underlying T = some (.slice E)) (hx : ev ρ x = .d (.l sz eb (xs.map f))) : Pure P G ⟨dst, .call { callee := .builtin .len, args := #[x], argTypes := #[T] }, ty, pos, after, g⟩ ρ h (.int xs.length) := by
  have := pure_len (G := G) (h := h) (dst := dst) (ty := ty) (pos := pos) (after := after) (g := g) hT hx
  rwa [List.length_map] at this
/-- An index by a counter. -/
theorem pure_index {α : Type} {T E : TypeId} {x y : Operand} {sz eb : Nat} {f : α → List D} {xs : List α} {n : Nat} {z : Value} {eb' : Nat} (hx : ev ρ x = .d (.l sz eb (xs.map f))) (hy : ev ρ y = .int (n : Int)) (hT : P.underlying T = some (.slice E)) (hE : El P E z sz eb')
    (hn : n < xs.length) : Pure P G ⟨dst, .indexAddr T x y, ty, pos, after, g⟩ ρ h (.pd (f xs[n])) :=
  pure_indexAddr hT hE hx hy (Int.natCast_nonneg n) (by rw [Int.toNat_natCast, List.getElem?_map, List.getElem?_eq_getElem hn]; rfl)
/-- An index by a place and one more. -/
theorem pure_index1 {α : Type} {T E : TypeId} {x y : Operand} {sz eb : Nat} {f : α → List D} {xs : List α} {n : Nat} {z : Value} {eb' : Nat} (hx : ev ρ x = .d (.l sz eb (xs.map f))) (hy : evO ρ y = some (.int ((n : Int) + 1))) (hT : P.underlying T = some (.slice E)) (hE : El P E z sz eb')
    (hn : n + 1 < xs.length) : Pure P G ⟨dst, .indexAddr T x y, ty, pos, after, g⟩ ρ h (.pd (f xs[n + 1])) :=
  pure_index (n := n + 1) hx (ev_of_evO hy) hT hE hn
/-- An index by a number. -/
theorem pure_indexI {α : Type} {T E : TypeId} {x y : Operand} {sz eb : Nat} {f : α → List D} {xs : List α} {n : Int} {z : Value} {eb' : Nat} (hx : ev ρ x = .d (.l sz eb (xs.map f))) (hy : ev ρ y = .int n) (hT : P.underlying T = some (.slice E)) (hE : El P E z sz eb')
    (h0 : 0 ≤ n) (hn : n.toNat < xs.length) : Pure P G ⟨dst, .indexAddr T x y, ty, pos, after, g⟩ ρ h (.pd (f xs[n.toNat])) :=
  pure_indexAddr hT hE hx hy h0 (by rw [List.getElem?_map, List.getElem?_eq_getElem hn]; rfl)
end
end Go.Av
