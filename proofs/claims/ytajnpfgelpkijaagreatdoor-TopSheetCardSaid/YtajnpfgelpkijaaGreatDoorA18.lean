/- A bundle of this claim's own texts: G46 G48 G49 H3 Y1 T10 H7. -/
import Derived.Test.YtajnpfgelpkijaaGreatDoorA4
import Derived.Test.YtajnpfgelpkijaaGreatDoorA5
import Derived.Test.YtajnpfgelpkijaaGreatDoorA6
import Derived.Test.YtajnpfgelpkijaaGreatDoorA8
import Derived.Test.YtajnpfgelpkijaaGreatDoorA12
import Derived.Test.YtajnpfgelpkijaaGreatDoorA15
import Derived.Test.YtajnpfgelpkijaaGreatDoorA16
set_option linter.unusedVariables false
set_option linter.unusedSimpArgs false
set_option maxRecDepth 100000
set_option maxHeartbeats 4000000
namespace Go.Sp
open Go Go.Av
theorem C5 {α : Type} (f : α → List UInt8) (l : List α) (i : Nat) : ((l.take i).flatMap f).length ≤ (l.flatMap f).length := by
 have h : l.flatMap f = (l.take i).flatMap f ++ (l.drop i).flatMap f := by rw [← List.flatMap_append, List.take_append_drop]
 rw [h, List.length_append]; omega
theorem Od {α : Type} (f : α → List UInt8) (l : List α) (i : Nat) (h : i < l.length) : (f l[i]).length ≤ (l.flatMap f).length := by
 have h1 := C5 f l (i + 1)
 rw [Jb f l i h, List.length_append] at h1
 omega
structure TkL (t : Tk) : Prop where
 all : (t.model.vars.flatMap JO).length + (t.model.rules.flatMap (Dx t.model.vars)).length + (t.props.flatMap (EG t.model.vars)).length + (HP t.model.vars t.formula).length ≤ 80000
theorem TkL.of {t : Tk} (h : TkP t) : TkL t := ⟨by
 have := TU h
 unfold Bo at this
 simp only [List.length_append] at this
 omega⟩
theorem bw {vars : List Vr} {s : St} (h : s.var.toNat < vars.length) : HU vars s = Zj ++ vars[s.var.toNat].name.data.toList ++ (Bt vars s.val ++ [10]) := by
 unfold HU
 rw [List.getElem?_eq_getElem h]
 simp
theorem Rl (vars : List Vr) (r : Ru) : Dx vars r = HS ++ (Bt vars r.guard ++ [10]) ++ r.sets.flatMap (HU vars) := by
 unfold Dx; simp
theorem YC (vars : List Vr) (l : List Fo) : EG vars l = Hb ++ (Bt vars l ++ [10]) := by unfold EG; simp
theorem W7 (vars : List Vr) (l : List Fo) : HP vars l = Ep ++ (Bt vars l ++ [10]) := by unfold HP; simp
def ruX (x : List Fo × D) : List D := [AN x.1, x.2]
def ruD (r : Ru) : List Fo × D := (r.guard, Kc r.sets)
def slD (q : Sl) : D := .ve q.v rfl
structure Pq where
 vars : List Vr
 done : List Ru
 cur : Option (List Fo)
 sets : List St
 props : List (List Fo)
 form : List Fo
def Pq.rl (d : Pq) (qs : Sl) : List (List Fo × D) := d.done.map ruD ++ match d.cur with | none => [] | some g => [(g, slD qs)]
def Pq.rules (d : Pq) : List Ru := d.done ++ match d.cur with | none => [] | some g => [⟨g, d.sets⟩]
def Pq.tk (d : Pq) : Tk := ⟨⟨d.vars, d.rules⟩, d.props, d.form⟩
def Pq.ok (d : Pq) : Prop := d.cur = none → d.done = [] ∧ d.sets = []
def pq0 : Pq := ⟨[], [], none, [], [], []⟩
theorem fR : pq0.ok := fun _ => ⟨rfl, rfl⟩
theorem Pq.rl_len (d : Pq) (qs : Sl) : (d.rl qs).length = d.rules.length := by
 unfold Pq.rl Pq.rules
 cases d.cur <;> simp
def Pq.rule (d : Pq) (g : List Fo) : Pq := ⟨d.vars, d.rules, some g, [], d.props, d.form⟩
def Pq.set (d : Pq) (s : St) : Pq := ⟨d.vars, d.done, d.cur, d.sets ++ [s], d.props, d.form⟩
theorem Pq.set_tk (d : Pq) (s : St) {g : List Fo} (h : d.cur = some g) : (d.set s).tk = ⟨⟨d.vars, FU d.rules s⟩, d.props, d.form⟩ := by
 unfold Pq.tk Pq.rules Pq.set
 rw [h]
 simp only [CN]
section
variable (a : List UInt8 → Int) (r : Ln)
theorem Vo (h : 0 < r.length) : CV a (r.take 1) = { CV a (r.take 0) with name := tx r[0] } := by
 match r, h with
 | w :: r, _ => rfl
theorem VL (h : 1 < r.length) : CV a (r.take 2) = { CV a (r.take 1) with low := a r[1] } := by
 match r, h with
 | _ :: w :: r, _ => rfl
theorem Vn (h : 2 < r.length) : CV a (r.take 3) = { CV a (r.take 2) with high := a r[2] } := by
 match r, h with
 | _ :: _ :: w :: r, _ => rfl
theorem WC (h : 3 < r.length) : CV a (r.take 4) = { CV a (r.take 3) with init := a r[3] } := by
 match r, h with
 | _ :: _ :: _ :: w :: r, _ => rfl
theorem WH {i : Nat} (h : 4 ≤ i) : CV a (r.take (i + 1)) = CV a (r.take i) := by
 match i, h with
 | i + 4, _ =>
   match r with
   | [] => rfl
   | [_] => rfl
   | [_, _] => rfl
   | [_, _, _] => rfl
   | _ :: _ :: _ :: _ :: r => rfl
end
structure TkN (n : Nat) (t : Tk) : Prop where
 vars : t.model.vars.length ≤ n
 rules : t.model.rules.length ≤ n
 sets : ∀ r ∈ t.model.rules, r.sets.length ≤ n
 props : t.props.length ≤ n
theorem TkN.zero : TkN 0 tk0 := ⟨Nat.le_refl _, Nat.le_refl _, fun _ h => (by cases h), Nat.le_refl _⟩
theorem TW : ∀ (l : List Ru) (s : St), (FU l s).length = l.length ∧ ∀ n, (∀ r ∈ l, r.sets.length ≤ n) → ∀ r ∈ FU l s, r.sets.length ≤ n + 1 := by
 intro l s
 rcases List.eq_nil_or_concat l with rfl | ⟨l', r, rfl⟩
 · exact ⟨rfl, fun n _ r hr => (by cases hr)⟩
 · rw [List.concat_eq_append] at *
   obtain ⟨g, ss⟩ := r
   rw [CN]
   refine ⟨by simp, fun n h r hr => ?_⟩
   rcases List.mem_append.1 hr with hr | hr
   · have := h r (List.mem_append.2 (.inl hr)); omega
   · have := h ⟨g, ss⟩ (by simp)
     simp only [List.mem_cons, List.not_mem_nil, or_false] at hr
     subst hr
     simp only [List.length_append, List.length_cons, List.length_nil] at *
     omega
theorem TkN.line {n : Nat} {t : Tk} (a : List UInt8 → Int) (h : TkN n t) : ∀ l : Ln, TkN (n + 1) (BW a t l) := by
 obtain ⟨h1, h2, h3, h4⟩ := h
 have base : TkN (n + 1) t := ⟨by omega, by omega, fun r hr => Nat.le_succ_of_le (h3 r hr), by omega⟩
 intro l
 cases l with
 | nil => exact base
 | cons w r =>
   unfold BW
   dsimp only
   split
   · exact ⟨by simp; omega, by simp; omega, fun r hr => Nat.le_succ_of_le (h3 r hr), by simp; omega⟩
   split
   · refine ⟨by simp; omega, by simp; omega, fun r hr => ?_, by simp; omega⟩
     rcases List.mem_append.1 hr with hr | hr
     · exact Nat.le_succ_of_le (h3 r hr)
     · simp only [List.mem_cons, List.not_mem_nil, or_false] at hr
       subst hr
       exact Nat.zero_le _
   split
   · split
     · have k := TW t.model.rules ⟨Be t.model.vars (r.headD []), r.tail.map (A4 a t.model.vars)⟩
       exact ⟨by simp; omega, by show (FU _ _).length ≤ _; rw [k.1]; omega, fun r hr => k.2 n h3 r hr, by simp; omega⟩
     · exact base
   split
   · exact ⟨by simp; omega, by simp; omega, fun r hr => Nat.le_succ_of_le (h3 r hr), by simp; omega⟩
   split
   · exact ⟨by simp; omega, by simp; omega, fun r hr => Nat.le_succ_of_le (h3 r hr), by simp; omega⟩
   · exact base
theorem TkN.fold (a : List UInt8 → Int) {α : Type} (f : α → Ln) : ∀ (l : List α) (n : Nat) (t : Tk), TkN n t → TkN (n + l.length) (l.foldl (fun t w => BW a t (f w)) t)
 | [], n, t, h => h
 | x :: l, n, t, h => by
   have := TkN.fold a f l (n + 1) _ (h.line a (f x))
   rw [List.foldl_cons, List.length_cons]
   rwa [show n + (l.length + 1) = n + 1 + l.length by omega]
theorem Qi : ∀ K : List (List UInt8), (IH K).length ≤ K.length
 | [] => by simp [IH]
 | [w] => by rw [IH]; split <;> simp
 | w :: v :: ws => by
   have := Qi (v :: ws)
   rw [IH, List.length_cons, List.length_cons]
   omega
theorem NT (s : List UInt8) : (BK s).length ≤ s.length + 1 := Nat.le_trans (Qi _) (K9 10 s)
theorem Zk (w : List UInt8) : (Lib.trimSuffix w [10]).length ≤ w.length := by
 unfold Lib.trimSuffix
 split
 · simp only [List.length_take]; omega
 · exact Nat.le_refl _
theorem Pq.count {d : Pq} {n : Nat} (h : TkN n d.tk) (hok : d.ok) : d.vars.length ≤ n ∧ d.done.length ≤ n ∧ d.sets.length ≤ n ∧ d.props.length ≤ n ∧ d.rules.length ≤ n := by
 obtain ⟨h1, h2, h3, h4⟩ := h
 have h2' : d.rules.length ≤ n := h2
 refine ⟨h1, ?_, ?_, h4, h2'⟩
 · unfold Pq.rules at h2'
   rw [List.length_append] at h2'
   omega
 · cases hc : d.cur with
   | none => rw [(hok hc).2]; exact Nat.zero_le _
   | some g =>
     have hm : (⟨g, d.sets⟩ : Ru) ∈ d.rules := by unfold Pq.rules; rw [hc]; simp
     exact h3 _ hm

structure Pl where
 guard : List Fo
 var : Int
 value : List Fo
 both : Bool
def Pl.cells (p : Pl) : List D := [AN p.guard, .i .i64 p.var, AN p.value, .b p.both]
abbrev GO (l : List Pl) : D := .l 4 64 (l.map Pl.cells)
structure De where
 s0 : Int
 s1 : Int
 l0 : Int
 l1 : Int
 i0 : Int
 i1 : Int
 rules : List Pl
def De.cells (d : De) : List D := [.i .i64 d.s0, .i .i64 d.s1, .i .i64 d.l0, .i .i64 d.l1, .i .i64 d.i0, .i .i64 d.i1, GO d.rules]
abbrev deA (d : De) : AV := .agg [.int d.s0, .int d.s1, .int d.l0, .int d.l1, .int d.i0, .int d.i1, .d (GO d.rules)]
abbrev xS : ByteArray := ⟨#[120]⟩
abbrev y2S : ByteArray := ⟨#[121, 50]⟩
def Vl (l : Int) : Int := pk l 3 - 1
def QJ (s l : Int) : Int := Vl l + pk s 4
def cr (s l i : Int) : Int := Vl l + pk i (QJ s l - Vl l + 1)
def I7 (n : ByteArray) (s l i : Int) : Vr := ⟨n, Vl l, QJ s l, cr s l i⟩
def Nw (p : Pl) : List St := ⟨pk p.var 2, BZ p.value 2 2 0⟩ :: (if p.both then [⟨1 - pk p.var 2, [⟨2, pk p.var 2⟩]⟩] else [])
def DP (p : Pl) : Ru := ⟨Db p.guard 2 3 0, Nw p⟩
def CH (d : De) : Md := ⟨[I7 xS d.s0 d.l0 d.i0, I7 y2S d.s1 d.l1 d.i1], (d.rules.take 5).map DP⟩
def HF : List (List Fo) := [[⟨7, 0⟩, ⟨2, 0⟩, ⟨1, 1⟩], [⟨7, 0⟩, ⟨2, 0⟩, ⟨2, 1⟩], [⟨6, 0⟩, ⟨2, 0⟩, ⟨2, 1⟩]]
def C4 (d : De) (f : List Fo) : Tk := ⟨CH d, HF, f⟩
theorem Ho (n : ByteArray) (s l i : Int) : DC (I7 n s l i) ∧ 1 ≤ A6 (I7 n s l i) ∧ A6 (I7 n s l i) ≤ 4 := by
 have h1 := Bc l (many := 3) (by decide)
 have h2 := Bc s (many := 4) (by decide)
 have h3 := Bc i (many := QJ s l - Vl l + 1) (by unfold QJ; omega)
 unfold DC A6 I7 cr
 dsimp only
 unfold QJ Vl at *
 omega
theorem gU : Bl xS := by
 refine ⟨⟨by decide, by decide⟩, ?_, ?_, fun i h => ?_⟩
 · intro h; exact absurd (congrArg (fun b : ByteArray => b.data.toList.length) h) (by decide)
 · intro h; exact absurd (congrArg (fun b : ByteArray => b.data.toList.length) h) (by decide)
 · have : i < 1 := h
   obtain rfl : i = 0 := by omega
   show NL 0 (120 : UInt8)
   exact .inl ⟨by decide, by decide⟩
theorem gP : Bl y2S := by
 refine ⟨⟨by decide, by decide⟩, ?_, ?_, fun i h => ?_⟩
 · intro h; exact absurd (congrArg (fun b : ByteArray => b.data.toList.length) h) (by decide)
 · intro h; exact absurd (congrArg (fun b : ByteArray => b.data.toList) h) (by decide)
 · have : i < 2 := h
   have : i = 0 ∨ i = 1 := by omega
   rcases this with rfl | rfl
   · show NL 0 (121 : UInt8)
     exact .inl ⟨by decide, by decide⟩
   · show NL 1 (50 : UInt8)
     exact .inr ⟨by decide, by decide, by decide⟩
theorem Xy {p q : Int} (hp : 1 ≤ p ∧ p ≤ 4) (hq : 1 ≤ q ∧ q ≤ 4) : 1 ≤ p * q ∧ p * q ≤ 16 := by
 have : p = 1 ∨ p = 2 ∨ p = 3 ∨ p = 4 := by omega
 rcases this with rfl | rfl | rfl | rfl <;> omega
theorem cV (d : De) : ED (CH d).vars = 0 := by
 obtain ⟨r0, a0, b0⟩ := Ho xS d.s0 d.l0 d.i0
 obtain ⟨r1, a1, b1⟩ := Ho y2S d.s1 d.l1 d.i1
 have hp := Xy ⟨a0, b0⟩ ⟨a1, b1⟩
 unfold ED CH
 dsimp only
 rw [if_neg (by simp), EE, if_neg (fun c => c gU), if_neg List.not_mem_nil, if_neg (fun c => c r0), if_neg (by omega), if_neg (by omega), EE, if_neg (fun c => c gP), if_neg, if_neg (fun c => c r1), if_neg (by omega), if_neg, EE]
 · rw [Int.one_mul]; omega
 · intro h
   have h2 : y2S = xS := List.mem_singleton.1 h
   exact absurd (congrArg (fun b : ByteArray => b.data.toList.length) h2) (by decide)
theorem aa (d : De) : 1 ≤ AR (CH d).vars ∧ AR (CH d).vars ≤ 16 := by
 obtain ⟨r0, a0, b0⟩ := Ho xS d.s0 d.l0 d.i0
 obtain ⟨r1, a1, b1⟩ := Ho y2S d.s1 d.l1 d.i1
 have hp := Xy ⟨a0, b0⟩ ⟨a1, b1⟩
 unfold CH
 rw [AR, AR, AR, Int.mul_one]
 exact hp
theorem cG (p : Pl) : DZ (DP p) 2 = 0 := by
 have hv := Bc p.var (many := 2) (by decide)
 have hg := (O7 p.guard 2 3 0).kind0 (by have := IQ p.guard 2; omega) (by decide)
 have hn := (Iy p.value 2 2 0).kind0 (by have := Lh p.value 2 0; omega) (by decide)
 unfold DZ DP Nw
 dsimp only
 rw [if_neg (by split <;> simp), if_neg (fun c => c hg), Er, if_neg (fun c => c hv), if_neg List.not_mem_nil, if_neg (fun c => c hn)]
 split
 · have hw : WfE (ExK 2) false [⟨2, pk p.var 2⟩] := .leaf (o := ⟨2, pk p.var 2⟩) (by
    unfold ExK opZ
    dsimp only
    rw [if_neg (by omega), if_neg (by omega)]) rfl
   have hk := hw.kind0 (by simp) (by decide)
   rw [Er, if_neg (fun c => c (by dsimp only; omega)), if_neg, if_neg (fun c => c hk), Er]
   intro h
   have h2 : (1 : Int) - pk p.var 2 = pk p.var 2 := List.mem_singleton.1 h
   omega
 · rw [Er]
theorem Nd (n : Int) : ∀ l : List Ru, (∀ r ∈ l, DZ r n = 0) → DU n l = 0
 | [], _ => rfl
 | r :: l, h => by
   rw [DU, if_neg (fun c => c (h r List.mem_cons_self))]
   exact Nd n l fun x hx => h x (List.mem_cons_of_mem _ hx)
theorem Yc (d : De) : Ah (CH d) = 0 := by
 unfold Ah
 rw [if_neg (fun c => c (cV d)), if_neg]
 · refine Nd _ _ fun r hr => ?_
   obtain ⟨p, _, rfl⟩ := List.mem_map.1 hr
   exact cG p
 · unfold CH
   rw [List.length_map, List.length_take]
   omega
theorem Xp (d : De) : CS (CH d) HF = 0 := by
 have h : ∀ a b c : Fo, a.kind = 6 ∨ a.kind = 7 → ExK 2 a → b.kind = 2 → ExK 2 b → c.kind = 1 ∨ c.kind = 2 → ExK 2 c → CF [a, b, c] 2 true = 0 := fun a b c ha ka hb kb hc kc => by
  have w : WfE (ExK 2) (decide (DE a.kind)) (a :: ([b] ++ [c])) := by
   refine .two ka (by rcases ha with e | e <;> rw [e] <;> rfl) ?_ ?_
   · have : decide (GJ a.kind) = decide (DE b.kind) := by rcases ha with e | e <;> rw [e, hb] <;> rfl
     rw [this]; exact .leaf kb (by rw [hb]; rfl)
   · have : decide (GJ a.kind) = decide (DE c.kind) := by rcases ha with e | e <;> rcases hc with f | f <;> rw [e, f] <;> rfl
     rw [this]; exact .leaf kc (by rcases hc with e | e <;> rw [e] <;> rfl)
  have e : decide (DE a.kind) = true := by rcases ha with e | e <;> rw [e] <;> rfl
  rw [e] at w
  exact w.kind0 (by simp) (by decide)
 unfold CS
 rw [if_neg (fun c => c (Yc d)), if_neg (by decide)]
 show Cm 2 HF = 0
 unfold HF
 rw [Cm, if_neg (fun c => c (h _ _ _ (.inr rfl) rfl rfl rfl (.inl rfl) rfl)), Cm, if_neg (fun c => c (h _ _ _ (.inr rfl) rfl rfl rfl (.inr rfl) rfl)), Cm, if_neg (fun c => c (h _ _ _ (.inl rfl) rfl rfl rfl (.inr rfl) rfl)), Cm]
structure FoG (f : List Fo) : Prop where
 wf : Wf (FoK 3) f
 len : f.length ≤ 60
 ah : nAh f ≤ 6
theorem Ot (d : De) {f : List Fo} (h : FoG f) : A2 (C4 d f) = 0 := by
 unfold A2 C4
 dsimp only
 rw [if_neg (fun c => c (Xp d))]
 exact h.wf.form h.len h.ah (by decide)
theorem cF {t : Tk} (h : A2 t = 0) (hp : AR t.model.vars ≤ 16) (i : Nat) : (spF t i).length ≤ 1024 := by
 have hc := FA t
 have hv := LG h i
 have hn : ((spF t i).map fun b => b.kind * 64 + b.val).Nodup := by
  unfold List.Nodup
  rw [List.pairwise_map]
  refine List.Pairwise.imp_of_mem ?_ (Fq t i)
  intro a b ha hb hne he
  have h1 := hv a ha
  have h2 := hv b hb
  unfold Py at h1 h2
  refine hne (Fo.ext' ?_ ?_) <;> omega
 have := Nl 1024 _ hn fun x hx => by
  obtain ⟨b, hb, rfl⟩ := List.mem_map.1 hx
  have h1 := hv b hb
  unfold Py at h1
  omega
 rwa [List.length_map] at this
theorem NU (t : Tk) {B : Nat} (hB : ∀ i, (spF t i).length ≤ B) (h2 : B ≤ 20000) : ∀ (f i : Nat) (nx : List (List Int)) (st : List Int), i ≤ B → B + 2 ≤ f + i → ∃ e, Gj t f i (spF t i) nx st = some e
 | 0, i, nx, st, h, h' => by omega
 | f + 1, i, nx, st, h, h' => by
   by_cases hi : i < (spF t i).length
   · have hg : (spF t i)[i]? = some (spF t i)[i] := List.getElem?_eq_getElem hi
     have e1 : spF t (i + 1) = (BY (spF t i) (Ao t (spF t i)[i].kind (spF t i)[i].val).1).1 := by rw [spF, hg]
     have hl := hB (i + 1)
     rw [e1] at hl
     rw [O3 t f i _ nx st hi (by omega), ← e1]
     have := hB i
     exact NU t hB h2 f (i + 1) _ _ (by omega) (by omega)
   · exact ⟨_, L7 t f i _ nx st (by omega)⟩
theorem PY {t : Tk} (h : A2 t = 0) (hp : AR t.model.vars ≤ 16) : ∃ e, BE t = (some e, 0) := by
 obtain ⟨e, he⟩ := NU t (cF h hp) (by decide) 20002 0 [] [] (by omega) (by omega)
 refine ⟨e, ?_⟩
 have he' : Gj t 20002 0 (BI t).1 [] [] = some e := he
 unfold BE
 rw [if_neg (fun c => c h), he']
theorem W8 (d : De) {f : List Fo} (h : FoG f) : ∃ e, BE (C4 d f) = (some e, 0) := PY (Ot d h) (aa d).2
end Go.Sp
namespace Go.Proofs.YtajnpfgelpkijaaGreatDoor
open Go Go.Av Go.Sp
theorem CC : Cal Tryz.prog 139 := Cal.of Tryz.func139 (by kernel_rfl) (by kernel_rfl)
theorem Eu : Cal Tryz.prog 169 := Cal.of Tryz.func169 (by kernel_rfl) (by kernel_rfl)
theorem GR {x y : Int} (hx : Al x) (hy : Al y) : Aj (x * y) := by
 have h : (x * y).natAbs ≤ 1000000 * 1000000 := by
  rw [Int.natAbs_mul]
  unfold Al at hx hy
  exact Nat.mul_le_mul (by omega) (by omega)
 generalize x * y = z at h
 unfold Aj; omega
theorem pop0 (G : List (Nat × List D)) (bm : Nat) (env xs : List Int) (n : Nat) (q : Sl) (hl : xs.length = n + 1) (hS : n ≤ 1000) : AC Tryz.prog G 139 [.val (.pointer (some ⟨bm, 0, none⟩))] [.cells bm 208 [.val q.v, .d (AP env)], AF q.v 3 1 Ag xs] fun r h => ∃ v : Sl, r = .ret (.int (xs[n]'(by omega))) ∧ h = [.cells bm 208 [.val v.v, .d (AP env)], AF v.v 3 1 Ag (xs.take n)] := by
 refine AK (ts := [2]) Tryz.f139.ntmps Tryz.func139 rfl rfl rfl (by simp [Tryz.ntmps139]) fun W I => ?_
 have hn : ((xs.length : Int) - 1).toNat = n := by omega
 repeat' (first
  | exact True.intro | refine AJ ?_ | refine two ?_ ?_ | refine AG fun c_ => ?_
  | (refine imp fun hc => ?_) <;> try exact cx1 hc
  | refine all fun v_ => ?_)
 refine AO (VS.cut (q := q) (f := Ag) (xs := xs) (E := 3) (sz := 1) (n := ((xs.length : Int) - 1).toNat) (h' := [.cells bm 208 [.val (q.cut ((xs.length : Int) - 1).toNat).v, .d (AP env)], AF (q.cut ((xs.length : Int) - 1).toNat).v 3 1 Ag (xs.take ((xs.length : Int) - 1).toNat)]) (by exact B6) (fun _ => rfl) (by omega)) ?_
 ((with_reducible apply rq1); rfl; rfl)
 refine ⟨q.cut ((xs.length : Int) - 1).toNat, ?_, by rw [hn]⟩
 simp only [hn]
 rfl
theorem pop (G : List (Nat × List D)) (bm : Nat) (env S : List Int) (a : Int) (q : Sl) (hS : S.length ≤ 1000) : AC Tryz.prog G 139 [.val (.pointer (some ⟨bm, 0, none⟩))] [.cells bm 208 [.val q.v, .d (AP env)], AF q.v 3 1 Ag (S ++ [a])] fun r h => ∃ v : Sl, r = .ret (.int a) ∧ h = [.cells bm 208 [.val v.v, .d (AP env)], AF v.v 3 1 Ag S] := by
 have := pop0 G bm env (S ++ [a]) S.length q (by simp) hS
 simp only [List.getElem_append_right (Nat.le_refl _), Nat.sub_self, List.getElem_cons_zero, List.take_left] at this
 exact this
theorem flag (G : List (Nat × List D)) (b : Bool) : ACr Tryz.prog G 169 [.bool b] (.int (if b = true then 1 else 0)) := by
 refine AK (ts := [2]) Tryz.f169.ntmps Tryz.func169 rfl rfl rfl (by simp [Tryz.ntmps169]) fun W I => ?_
 cases b
 all_goals
  repeat' (first
   | exact True.intro | refine AJ ?_ | refine two ?_ ?_ | refine AG fun c_ => ?_
   | (refine imp fun hc => ?_) <;> try exact cx1 hc
   | refine all fun v_ => ?_)
  refine CY ?_
  ((with_reducible apply rq1); rfl; rfl)
  exact AD rfl
theorem cX : Cal Tryz.prog 165 := Cal.of Tryz.func165 (by kernel_rfl) (by kernel_rfl)
theorem clo1 (G : List (Nat × List D)) (ba bb : Nat) (x y : Int) (hx : Al x) (hy : Al y) : AC Tryz.prog G 165 [.val (.pointer (some ⟨ba, 0, none⟩)), .val (.pointer (some ⟨bb, 0, none⟩))] [.cells ba 3 [.int x], .cells bb 3 [.int y]] fun r h => ∃ v : Unit, r = .ret (.int (x + y)) ∧ h = [.cells ba 3 [.int x], .cells bb 3 [.int y]] := by
 have hm := GR hx hy
 unfold Al at hx hy
 refine AK (ts := [2]) Tryz.f165.ntmps Tryz.func165 rfl rfl rfl (by simp [Tryz.ntmps165]) fun W I => ?_
 repeat' (first
  | refine ca Eu (flag _ _) ?_
  | exact True.intro | refine AJ ?_ | refine two ?_ ?_ | refine AG fun c_ => ?_
  | (refine imp fun hc => ?_) <;> try exact cx1 hc
  | refine all fun v_ => ?_)
 refine CY ?_
 ((with_reducible apply rq1); rfl; rfl)
 exact ⟨(), rfl, rfl⟩
theorem cP : Cal Tryz.prog 166 := Cal.of Tryz.func166 (by kernel_rfl) (by kernel_rfl)
theorem clo2 (G : List (Nat × List D)) (ba bb : Nat) (x y : Int) (hx : Al x) (hy : Al y) : AC Tryz.prog G 166 [.val (.pointer (some ⟨ba, 0, none⟩)), .val (.pointer (some ⟨bb, 0, none⟩))] [.cells ba 3 [.int x], .cells bb 3 [.int y]] fun r h => ∃ v : Unit, r = .ret (.int (x - y)) ∧ h = [.cells ba 3 [.int x], .cells bb 3 [.int y]] := by
 have hm := GR hx hy
 unfold Al at hx hy
 refine AK (ts := [2]) Tryz.f166.ntmps Tryz.func166 rfl rfl rfl (by simp [Tryz.ntmps166]) fun W I => ?_
 repeat' (first
  | refine ca Eu (flag _ _) ?_
  | exact True.intro | refine AJ ?_ | refine two ?_ ?_ | refine AG fun c_ => ?_
  | (refine imp fun hc => ?_) <;> try exact cx1 hc
  | refine all fun v_ => ?_)
 refine CY ?_
 ((with_reducible apply rq1); rfl; rfl)
 exact ⟨(), rfl, rfl⟩
theorem cE : Cal Tryz.prog 167 := Cal.of Tryz.func167 (by kernel_rfl) (by kernel_rfl)
theorem clo3 (G : List (Nat × List D)) (ba bb : Nat) (x y : Int) (hx : Al x) (hy : Al y) : AC Tryz.prog G 167 [.val (.pointer (some ⟨ba, 0, none⟩)), .val (.pointer (some ⟨bb, 0, none⟩))] [.cells ba 3 [.int x], .cells bb 3 [.int y]] fun r h => ∃ v : Unit, r = .ret (.int (x * y)) ∧ h = [.cells ba 3 [.int x], .cells bb 3 [.int y]] := by
 have hm := GR hx hy
 unfold Al at hx hy
 refine AK (ts := [2]) Tryz.f167.ntmps Tryz.func167 rfl rfl rfl (by simp [Tryz.ntmps167]) fun W I => ?_
 repeat' (first
  | refine ca Eu (flag _ _) ?_
  | exact True.intro | refine AJ ?_ | refine two ?_ ?_ | refine AG fun c_ => ?_
  | (refine imp fun hc => ?_) <;> try exact cx1 hc
  | refine all fun v_ => ?_)
 refine CY ?_
 ((with_reducible apply rq1); rfl; rfl)
 exact ⟨(), rfl, rfl⟩
theorem bj : Cal Tryz.prog 168 := Cal.of Tryz.func168 (by kernel_rfl) (by kernel_rfl)
theorem clo4 (G : List (Nat × List D)) (ba bb : Nat) (x y : Int) (hx : Al x) (hy : Al y) : AC Tryz.prog G 168 [.val (.pointer (some ⟨ba, 0, none⟩)), .val (.pointer (some ⟨bb, 0, none⟩))] [.cells ba 3 [.int x], .cells bb 3 [.int y]] fun r h => ∃ v : Unit, r = .ret (.int (if decide (x = y) = true then 1 else 0)) ∧ h = [.cells ba 3 [.int x], .cells bb 3 [.int y]] := by
 have hm := GR hx hy
 unfold Al at hx hy
 refine AK (ts := [2]) Tryz.f168.ntmps Tryz.func168 rfl rfl rfl (by simp [Tryz.ntmps168]) fun W I => ?_
 repeat' (first
  | refine ca Eu (flag _ _) ?_
  | exact True.intro | refine AJ ?_ | refine two ?_ ?_ | refine AG fun c_ => ?_
  | (refine imp fun hc => ?_) <;> try exact cx1 hc
  | refine all fun v_ => ?_)
 refine CY ?_
 ((with_reducible apply rq1); rfl; rfl)
 exact ⟨(), rfl, rfl⟩
theorem bM : Cal Tryz.prog 170 := Cal.of Tryz.func170 (by kernel_rfl) (by kernel_rfl)
theorem clo5 (G : List (Nat × List D)) (ba bb : Nat) (x y : Int) (hx : Al x) (hy : Al y) : AC Tryz.prog G 170 [.val (.pointer (some ⟨ba, 0, none⟩)), .val (.pointer (some ⟨bb, 0, none⟩))] [.cells ba 3 [.int x], .cells bb 3 [.int y]] fun r h => ∃ v : Unit, r = .ret (.int (if decide (x < y) = true then 1 else 0)) ∧ h = [.cells ba 3 [.int x], .cells bb 3 [.int y]] := by
 have hm := GR hx hy
 unfold Al at hx hy
 refine AK (ts := [2]) Tryz.f170.ntmps Tryz.func170 rfl rfl rfl (by simp [Tryz.ntmps170]) fun W I => ?_
 repeat' (first
  | refine ca Eu (flag _ _) ?_
  | exact True.intro | refine AJ ?_ | refine two ?_ ?_ | refine AG fun c_ => ?_
  | (refine imp fun hc => ?_) <;> try exact cx1 hc
  | refine all fun v_ => ?_)
 refine CY ?_
 ((with_reducible apply rq1); rfl; rfl)
 exact ⟨(), rfl, rfl⟩
theorem cQ : Cal Tryz.prog 171 := Cal.of Tryz.func171 (by kernel_rfl) (by kernel_rfl)
theorem clo6 (G : List (Nat × List D)) (ba bb : Nat) (x y : Int) (hx : Al x) (hy : Al y) : AC Tryz.prog G 171 [.val (.pointer (some ⟨ba, 0, none⟩)), .val (.pointer (some ⟨bb, 0, none⟩))] [.cells ba 3 [.int x], .cells bb 3 [.int y]] fun r h => ∃ v : Unit, r = .ret (.int (bits .and .i64 x y)) ∧ h = [.cells ba 3 [.int x], .cells bb 3 [.int y]] := by
 have hm := GR hx hy
 unfold Al at hx hy
 refine AK (ts := [2]) Tryz.f171.ntmps Tryz.func171 rfl rfl rfl (by simp [Tryz.ntmps171]) fun W I => ?_
 repeat' (first
  | refine ca Eu (flag _ _) ?_
  | exact True.intro | refine AJ ?_ | refine two ?_ ?_ | refine AG fun c_ => ?_
  | (refine imp fun hc => ?_) <;> try exact cx1 hc
  | refine all fun v_ => ?_)
 refine CY ?_
 ((with_reducible apply rq1); rfl; rfl)
 exact ⟨(), rfl, rfl⟩
theorem aK : Cal Tryz.prog 172 := Cal.of Tryz.func172 (by kernel_rfl) (by kernel_rfl)
theorem clo7 (G : List (Nat × List D)) (ba bb : Nat) (x y : Int) (hx : Al x) (hy : Al y) : AC Tryz.prog G 172 [.val (.pointer (some ⟨ba, 0, none⟩)), .val (.pointer (some ⟨bb, 0, none⟩))] [.cells ba 3 [.int x], .cells bb 3 [.int y]] fun r h => ∃ v : Unit, r = .ret (.int (bits .or .i64 x y)) ∧ h = [.cells ba 3 [.int x], .cells bb 3 [.int y]] := by
 have hm := GR hx hy
 unfold Al at hx hy
 refine AK (ts := [2]) Tryz.f172.ntmps Tryz.func172 rfl rfl rfl (by simp [Tryz.ntmps172]) fun W I => ?_
 repeat' (first
  | refine ca Eu (flag _ _) ?_
  | exact True.intro | refine AJ ?_ | refine two ?_ ?_ | refine AG fun c_ => ?_
  | (refine imp fun hc => ?_) <;> try exact cx1 hc
  | refine all fun v_ => ?_)
 refine CY ?_
 ((with_reducible apply rq1); rfl; rfl)
 exact ⟨(), rfl, rfl⟩


theorem B8 : Cal Tryz.prog 134 := Cal.of Tryz.func134 (by kernel_rfl) (by kernel_rfl)
theorem B5 : Cal Tryz.prog 135 := Cal.of Tryz.func135 (by kernel_rfl) (by kernel_rfl)
theorem A3 : Cal Tryz.prog 98 := Cal.of Tryz.func98 (by kernel_rfl) (by kernel_rfl)
theorem VC (G : List (Nat × List D)) (out : List Bool) (n : Nat) (hb : out.length ≤ 60) (h : n + 1 < out.length) : ACr Tryz.prog G 134 [.pd [Bv out], .pd [.i .i64 n]] (.bool out[n + 1]) := by
 refine Dd (ts := [2]) 8 Tryz.func134 rfl rfl rfl (by simp) fun W I => ?_
 repeat' (first
  | exact True.intro
  | refine stp ?_
  | refine two ?_ ?_
  | (refine imp fun hc => ?_) <;> try exact cx hc
  | refine all fun v_ => ?_)
 ((with_reducible apply rq1); rfl; rfl)
 exact AD rfl
theorem a8 (G : List (Nat × List D)) (out : List Bool) (es : List Int) (n : Nat) (hb : es.length ≤ 60) (h : n + 1 < es.length) (h0 : 0 ≤ es[n + 1]) (h1 : es[n + 1].toNat < out.length) : ACr Tryz.prog G 135 [.pd [Bv out], .pd [AP es], .pd [.i .i64 n]] (.bool out[es[n + 1].toNat]) := by
 refine Dd (ts := [3]) 12 Tryz.func135 rfl rfl rfl (by simp) fun W I => ?_
 repeat' (first
  | exact True.intro
  | refine stp ?_
  | refine two ?_ ?_
  | (refine imp fun hc => ?_) <;> try exact cx hc
  | refine all fun v_ => ?_)
 ((with_reducible apply rq1); rfl; rfl)
 exact AD rfl
theorem gq {j : Nat} (h : j ≤ 6) : 1 ≤ (2 : Int) ^ j ∧ (2 : Int) ^ j ≤ 64 := by
 have : j = 0 ∨ j = 1 ∨ j = 2 ∨ j = 3 ∨ j = 4 ∨ j = 5 ∨ j = 6 := by omega
 rcases this with h | h | h | h | h | h | h <;> subst h <;> decide
end Go.Proofs.YtajnpfgelpkijaaGreatDoor
namespace Go.Sp
open Go Go.Av
theorem aO (d : De) {f : List Fo} (h : FoG f) : (Bo (C4 d f)).length ≤ 10000 := by
 have g := TkP.of (Ot d h)
 have := Kk g (nv := 2) (nr := 5) (g := 38) (n := 2) (k := 7) (np := 3) (p := 3) (f := 60) (by simp [C4, CH]) (by simp [C4, CH]; omega)
  (fun r hr => by
   obtain ⟨p, _, rfl⟩ := List.mem_map.1 hr
   refine ⟨IQ _ _, ?_, fun s hs => ?_⟩
   · unfold DP Nw; dsimp only; split <;> simp
   · unfold DP Nw at hs
     dsimp only at hs
     rcases List.mem_cons.1 hs with rfl | hs
     · exact Lh _ _ _
     · split at hs
       · rw [List.mem_singleton] at hs; subst hs; simp
       · cases hs)
  (by simp [C4, HF]) (fun q hq => by
   simp only [C4, HF, List.mem_cons, List.not_mem_nil, or_false] at hq
   rcases hq with rfl | rfl | rfl <;> simp) h.len
 omega
theorem dI (d : De) {f : List Fo} (h : FoG f) (size bad : Int) : DD (C4 d f) = (tx (Bo (C4 d f)), 0) ∧ RC size bad (tx (Bo (C4 d f))) = (C4 d f, 0) := by
 have h0 := Ot d h
 refine ⟨?_, QV h0 (aO d h) size bad⟩
 unfold DD
 rw [if_neg (fun k => k h0)]
end Go.Sp
