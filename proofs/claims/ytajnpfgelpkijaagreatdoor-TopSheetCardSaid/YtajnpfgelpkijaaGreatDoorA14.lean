/- A bundle of this claim's own texts: K1. -/
import Derived.Test.YtajnpfgelpkijaaGreatDoorA3
import Derived.Test.YtajnpfgelpkijaaGreatDoorA7
import Derived.Test.YtajnpfgelpkijaaGreatDoorA8
set_option linter.unusedVariables false
set_option linter.unusedSimpArgs false
set_option maxRecDepth 100000
set_option maxHeartbeats 4000000
namespace Go.Sp
open Go Go.Av
def Bd (raw : List Fo) : Prop := ∀ o ∈ raw, Aj o.kind ∧ Aj o.val
theorem B9 {raw : List Fo} (h : Bd raw) (a : Nat) : Aj (tk raw a).kind ∧ Aj (tk raw a).val := by
 unfold tk
 cases e : raw[a]? with
 | none => exact ⟨by unfold Aj; decide, by unfold Aj; decide⟩
 | some o => exact h o (List.mem_of_getElem? e)
end Go.Sp
namespace Go.Proofs.YtajnpfgelpkijaaGreatDoor
open Go Go.Av Go.Sp
theorem AH : Cal Tryz.prog 47 := Cal.of Tryz.func47 (by kernel_rfl) (by kernel_rfl)
theorem By : Cal Tryz.prog 87 := Cal.of Tryz.func87 (by kernel_rfl) (by kernel_rfl)
theorem Bp : Cal Tryz.prog 88 := Cal.of Tryz.func88 (by kernel_rfl) (by kernel_rfl)
theorem Ea : Cal Tryz.prog 86 := Cal.of Tryz.func86 (by kernel_rfl) (by kernel_rfl)
theorem F8 : Cal Tryz.prog 85 := Cal.of Tryz.func85 (by kernel_rfl) (by kernel_rfl)
theorem Ap (G : List (Nat × List D)) (n many : Int) (h : 0 < many) (hn : Aj n) : ACr Tryz.prog G 47 [.int n, .int many] (.int (pk n many)) := by
 unfold Aj at hn
 refine AK (ts := [4]) Tryz.f47.ntmps Tryz.func47 rfl rfl rfl (by simp [Tryz.ntmps47]) fun W I => ?_
 by_cases h0 : n < 0
 · repeat' (first
    | exact True.intro | refine AJ ?_ | refine two ?_ ?_ | refine AG fun c_ => ?_
    | (refine imp fun hc => ?_) <;> try exact cx1 hc
    | refine all fun v_ => ?_)
   refine CY ?_
   ((with_reducible apply rq1); rfl; rfl)
   exact AD (by unfold pk; rw [if_pos h0])
 · repeat' (first
    | exact True.intro | refine AJ ?_ | refine two ?_ ?_ | refine AG fun c_ => ?_
    | (refine imp fun hc => ?_) <;> try exact cx1 hc
    | refine all fun v_ => ?_)
   refine CY ?_
   ((with_reducible apply rq1); rfl; rfl)
   exact AD (by unfold pk; rw [if_neg h0])
section
variable (G : List (Nat × List D)) (bg : Nat) (raw : List Fo) (vars props : Int)
theorem take (a : Nat) (t : Int) (q : Value) (ha : a ≤ 1000) : AC Tryz.prog G 87 [.val (.pointer (some ⟨bg, 0, none⟩))] [.cells bg 122 [.d (AN raw), .int ((a : Nat) : Int), .int vars, .int props, .int (t), .val q]] fun r h => ∃ v : Unit, r = .ret (.agg [.int (tk raw a).kind, .int (tk raw a).val]) ∧ h = [.cells bg 122 [.d (AN raw), .int ((a + 1 : Nat) : Int), .int vars, .int props, .int (t), .val q]] := by
 refine Et (rs := [.cell 2 157]) Tryz.f87.ntmps Tryz.func87 rfl rfl rfl (by simp [Tryz.ntmps87]) fun W I => ?_
 by_cases h : a < raw.length
 · have e : tk raw a = raw[a] := by unfold tk; rw [List.getElem?_eq_getElem h]; rfl
   rw [e]
   repeat' (first
    | exact True.intro | refine AJ ?_ | refine two ?_ ?_ | refine AG fun c_ => ?_
    | (refine imp fun hc => ?_) <;> try exact cx1 hc
    | refine all fun v_ => ?_)
   obtain ⟨b1, rfl⟩ : ∃ x, x = v_ := ⟨v_, rfl⟩
   obtain ⟨b2, rfl⟩ : ∃ x, x = v_ := ⟨v_, rfl⟩
   refine Jt (VS.take (hc := [.cells bg 122 [.d (AN raw), .int ((a + 1 : Nat) : Int), .int vars, .int props, .int (t), .val q], .cells b2 157 [.int raw[a].kind, .int raw[a].val]]) (by exact AB) (Env.le_refl _)) (xs := [.agg [.int raw[a].kind, .int raw[a].val]]) ⟨CI rfl (by (with_reducible exact ElC.h)) rfl (by exact Ai) rfl, trivial⟩ rfl (h' := [.cells bg 122 [.d (AN raw), .int ((a + 1 : Nat) : Int), .int vars, .int props, .int (t), .val q]]) (by exact H6) ?_
   exact ⟨(), rfl, rfl⟩
 · have e : tk raw a = ⟨0, 0⟩ := by unfold tk; rw [List.getElem?_eq_none (by omega)]; rfl
   rw [e]
   repeat' (first
    | exact True.intro | refine AJ ?_ | refine two ?_ ?_ | refine AG fun c_ => ?_
    | (refine imp fun hc => ?_) <;> try exact cx1 hc
    | refine all fun v_ => ?_)
   obtain ⟨b1, rfl⟩ : ∃ x, x = v_ := ⟨v_, rfl⟩
   obtain ⟨b2, rfl⟩ : ∃ x, x = v_ := ⟨v_, rfl⟩
   refine Jt (VS.take (hc := [.cells bg 122 [.d (AN raw), .int ((a + 1 : Nat) : Int), .int vars, .int props, .int (t), .val q], .cells b2 157 [.int 0, .int 0]]) (by exact AB) (Env.le_refl _)) (xs := [.agg [.int 0, .int 0]]) ⟨CI rfl (by (with_reducible exact ElC.h)) rfl (by exact Ai) rfl, trivial⟩ rfl (h' := [.cells bg 122 [.d (AN raw), .int ((a + 1 : Nat) : Int), .int vars, .int props, .int (t), .val q]]) (by exact H6) ?_
   exact ⟨(), rfl, rfl⟩
theorem IW (a : Nat) (t : Int) (q : Sl) (out : List Fo) (k v : Int) (hb : out.length ≤ 100000) : AC Tryz.prog G 88 [.val (.pointer (some ⟨bg, 0, none⟩)), .int k, .int v] [.cells bg 122 [.d (AN raw), .int ((a : Nat) : Int), .int vars, .int props, .int (t), .val q.v], AF q.v 53 2 Fo.cells (out)] fun r h => ∃ w : Sl, r = .ret (.tup []) ∧ h = [.cells bg 122 [.d (AN raw), .int ((a : Nat) : Int), .int vars, .int props, .int (t), .val w.v], AF w.v 53 2 Fo.cells (out ++ [⟨k, v⟩])] := by
 refine AK (ts := []) Tryz.f88.ntmps Tryz.func88 rfl rfl rfl (by simp [Tryz.ntmps88]) fun W I => ?_
 repeat' (first
  | ((with_reducible apply (Bm (f := Fo.cells) (u := ⟨k, v⟩))); (focus rfl); (focus rfl); (focus (with_reducible exact ElC.h)); (focus exact BT); (focus rfl); (focus rfl); (focus rfl); (focus rfl); (focus exact Ad); (focus exact Ad))
  | exact True.intro | refine AJ ?_ | refine two ?_ ?_ | refine AG fun c_ => ?_
  | (refine imp fun hc => ?_) <;> try exact cx1 hc
  | refine all fun v_ => ?_)
 refine AO (VS.take (hc := [.cells bg 122 [.d (AN raw), .int ((a : Nat) : Int), .int vars, .int props, .int (t), .val v_.v], AF v_.v 53 2 Fo.cells (out ++ [⟨k, v⟩])]) (by exact AB) (Env.le_refl _)) ?_
 exact ⟨v_, rfl, rfl⟩
theorem pkb (n : Int) {many : Int} (h : 0 < many) : 0 ≤ pk n many ∧ pk n many < many := Bc n h
def GrT (f : FuncId) (G : List (Nat × List D)) (bg : Nat) (raw : List Fo) (vars props : Int) (t : Int) (d : Int) (a : Nat) (q : Sl) (out x : List Fo) (t' : Int) : Prop :=
 AC Tryz.prog G f [.val (.pointer (some ⟨bg, 0, none⟩)), .int d] [.cells bg 122 [.d (AN raw), .int ((a : Nat) : Int), .int vars, .int props, .int (t), .val q.v], AF q.v 53 2 Fo.cells (out)] fun r h => ∃ w : Sl, r = .ret (.tup []) ∧ h = [.cells bg 122 [.d (AN raw), .int ((a + x.length : Nat) : Int), .int vars, .int props, .int (t'), .val w.v], AF w.v 53 2 Fo.cells (out ++ x)]
theorem LX {p q : Prop} (hp : p) (h : p → q := by
 apply cmp; (focus (first
  | ((with_reducible apply Ez); (focus rfl); (focus exact AH); (focus exact Ap G (tk raw a).kind 5 (by decide) (B9 hr a).1); (focus rfl))
  | ((with_reducible apply je_call0); (focus rfl); (focus (decide +kernel)); (focus rfl); (focus exact AH); (focus exact Ap G (tk raw a).kind 5 (by decide) (B9 hr a).1); (focus rfl))
  | ((with_reducible apply Ez); (focus rfl); (focus exact AH); (focus exact Ap G (tk raw a).kind 2 (by decide) (B9 hr a).1); (focus rfl))
  | ((with_reducible apply je_call0); (focus rfl); (focus (decide +kernel)); (focus rfl); (focus exact AH); (focus exact Ap G (tk raw a).kind 2 (by decide) (B9 hr a).1); (focus rfl))
  | ((with_reducible apply Ez); (focus rfl); (focus exact AH); (focus exact Ap G (tk raw a).val 9 (by decide) (B9 hr a).2); (focus rfl))
  | ((with_reducible apply je_call0); (focus rfl); (focus (decide +kernel)); (focus rfl); (focus exact AH); (focus exact Ap G (tk raw a).val 9 (by decide) (B9 hr a).2); (focus rfl))
  ))
 exact fun h => h) : q := h hp
theorem Uj (hr : Bd raw) (hv : 0 < vars ∧ vars ≤ 1000) (t : Int) (d a : Nat) (q : Sl) (out : List Fo) (ha : a ≤ 400) (ho : out.length ≤ 2000) (hk : Dy raw d a < 2) :
 GrT 86 G bg raw vars props t ((d : Int)) (a) q out ([SO raw vars a (Dy raw d a)]) t := by
 have h5 := pkb (tk raw a).kind (many := 5) (by decide)
 have h2 := pkb (tk raw a).kind (many := 2) (by decide)
 have h9 := pkb (tk raw a).val (many := 9) (by decide)
 have hb := (GC raw d a).1
 have e : (d = 0 ∧ Dy raw d a = pk (tk raw a).kind 2) ∨ (d ≠ 0 ∧ 14 < a + 1 ∧ Dy raw d a = pk (tk raw a).kind 2) ∨ (d ≠ 0 ∧ ¬ 14 < a + 1 ∧ Dy raw d a = pk (tk raw a).kind 5) := by
  unfold Dy
  by_cases c0 : d = 0
  · exact .inl ⟨c0, if_pos (.inl c0)⟩
  · by_cases c1 : 14 < a + 1
    · exact .inr (.inl ⟨c0, c1, if_pos (.inr c1)⟩)
    · exact .inr (.inr ⟨c0, c1, if_neg (fun k => k.elim c0 c1)⟩)
 unfold SO
 unfold GrT
 refine AK (ts := []) Tryz.f86.ntmps Tryz.func86 rfl rfl rfl (by simp [Tryz.ntmps86]) fun W I => ?_
 by_cases k1 : Dy raw d a = 1
 · rw [if_pos ⟨k1, hv.1⟩]
   rcases e with ⟨c0, e⟩ | ⟨c0, c1, e⟩ | ⟨c0, c1, e⟩
   all_goals
    repeat' (first
     | refine LX ?_
     | refine ca AH (Ap G (tk raw a).val vars hv.1 (B9 hr a).2) ?_
     | ((with_reducible apply Au); (focus rfl); (focus exact By); (focus exact take G bg raw vars props a t q.v (by omega)); (focus exact AS); (focus rfl); (focus exact A8))
     | ((with_reducible apply Au); (focus rfl); (focus exact Bp); (focus exact IW G bg raw vars props (a + 1) t q out 2 (pk (tk raw a).val vars) (by omega)); (focus exact AS); (focus rfl); (focus exact A8))
     | exact True.intro | refine Gi ?_ | refine two ?_ ?_ | refine AG fun c_ => ?_
     | (refine imp fun hc => ?_) <;> try exact cx hc
     | refine all fun v_ => ?_)
    refine ⟨?_⟩
    refine BC [.cells bg 122 [.d (AN raw), .int ((a + 1 : Nat) : Int), .int vars, .int props, .int (t), .val q.v], AF q.v 53 2 Fo.cells (out)] mixed rfl (by (repeat ((with_reducible apply Hd.cons); (focus rfl))); exact Hd.nil) (by (repeat (with_reducible apply Aa)); exact len_nil) (by decide +kernel) (by exact AS) ?_
    repeat' (first
     | refine LX ?_
     | refine ca AH (Ap G (tk raw a).val vars hv.1 (B9 hr a).2) ?_
     | ((with_reducible apply Au); (focus rfl); (focus exact By); (focus exact take G bg raw vars props a t q.v (by omega)); (focus exact AS); (focus rfl); (focus exact A8))
     | ((with_reducible apply Au); (focus rfl); (focus exact Bp); (focus exact IW G bg raw vars props (a + 1) t q out 2 (pk (tk raw a).val vars) (by omega)); (focus exact AS); (focus rfl); (focus exact A8))
     | exact True.intro | refine AJ ?_ | refine two ?_ ?_ | refine AG fun c_ => ?_
     | (refine imp fun hc => ?_) <;> try exact cx1 hc
     | refine all fun v_ => ?_)
    refine AO (VS.take (hc := [.cells bg 122 [.d (AN raw), .int ((a + 1 : Nat) : Int), .int vars, .int props, .int (t), .val v_.v], AF v_.v 53 2 Fo.cells (out ++ [⟨2, pk (tk raw a).val vars⟩])]) (by exact AB) (Env.le_refl _)) ?_
    exact ⟨v_, rfl, rfl⟩
 · rw [if_neg (fun k => k1 k.1)]
   rcases e with ⟨c0, e⟩ | ⟨c0, c1, e⟩ | ⟨c0, c1, e⟩
   all_goals
    repeat' (first
     | refine LX ?_
     | refine ca AH (Ap G (tk raw a).val vars hv.1 (B9 hr a).2) ?_
     | ((with_reducible apply Au); (focus rfl); (focus exact By); (focus exact take G bg raw vars props a t q.v (by omega)); (focus exact AS); (focus rfl); (focus exact A8))
     | ((with_reducible apply Au); (focus rfl); (focus exact Bp); (focus exact IW G bg raw vars props (a + 1) t q out 1 (pk (tk raw a).val 9 - 4) (by omega)); (focus exact AS); (focus rfl); (focus exact A8))
     | exact True.intro | refine AJ ?_ | refine two ?_ ?_ | refine AG fun c_ => ?_
     | (refine imp fun hc => ?_) <;> try exact cx1 hc
     | refine all fun v_ => ?_)
    refine AO (VS.take (hc := [.cells bg 122 [.d (AN raw), .int ((a + 1 : Nat) : Int), .int vars, .int props, .int (t), .val v_.v], AF v_.v 53 2 Fo.cells (out ++ [⟨1, pk (tk raw a).val 9 - 4⟩])]) (by exact AB) (Env.le_refl _)) ?_
    exact ⟨v_, rfl, rfl⟩
end
end Go.Proofs.YtajnpfgelpkijaaGreatDoor
