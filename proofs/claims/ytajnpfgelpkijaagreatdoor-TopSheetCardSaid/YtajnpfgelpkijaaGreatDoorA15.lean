/- A bundle of this claim's own texts: R1 G41 G42 G43 G44 G45 G47 G18 G19 G24 G25 G27. -/
import Derived.Lib.AtoiAll
import Derived.Lib.Split
import Derived.Lib.Strings
import Derived.Lib.Bytealg
import Derived.Test.YtajnpfgelpkijaaGreatDoorA4
import Derived.Test.YtajnpfgelpkijaaGreatDoorA5
import Derived.Test.YtajnpfgelpkijaaGreatDoorA7
import Derived.Test.YtajnpfgelpkijaaGreatDoorA8
import Derived.Test.YtajnpfgelpkijaaGreatDoorA10
import Derived.Test.YtajnpfgelpkijaaGreatDoorA12
set_option linter.unusedVariables false
set_option linter.unusedSimpArgs false
set_option maxRecDepth 100000
set_option maxHeartbeats 4000000
namespace Go.Proofs.YtajnpfgelpkijaaGreatDoor
open Go Go.Av Go.Sp
theorem Qy : El Tryz.prog 83 (.pointer none) 1 8 := by unfold El; kernel_rfl
instance instR1_1 : ElC Tryz.prog 83 (.pointer none) 1 8 := ⟨Qy⟩
theorem H8 : Cal Tryz.prog 54 := Cal.of Tryz.func54 (by kernel_rfl) (by kernel_rfl)
theorem C6 : Cal Tryz.prog 30 := Cal.of Tryz.func30 (by kernel_rfl) (by kernel_rfl)
theorem Am : Cal Tryz.prog 28 := Cal.of Tryz.func28 (by kernel_rfl) (by kernel_rfl)
theorem Ee : Cal Tryz.prog 32 := Cal.of Tryz.func32 (by kernel_rfl) (by kernel_rfl)
abbrev Cj (b : Nat) : Value := .pointer (some ⟨b, 0, none⟩)
abbrev Qq (b : Nat) (u : Bool) : Value := .pointer (bif u then some ⟨b, 0, none⟩ else none)
theorem Rb : ∃ j, Tryz.prog.info? 86 = some j ∧ j.size ≠ 0 := by
 have h : (Tryz.prog.info? 86).map (·.size) = some 2 := by kernel_rfl
 cases e : Tryz.prog.info? 86 with
 | none => rw [e] at h; cases h
 | some j => rw [e] at h; exact ⟨j, rfl, by simp at h; omega⟩
theorem liesBuilder : liesAt Tryz.prog Tryz.prog.depth 86 (2 / Tryz.prog.cellsOf 86) 0 86 1 = true := by kernel_rfl
theorem OB (G : List (Nat × List D)) (b : Nat) (u : Bool) (v : Value) : AC Tryz.prog G 54 [.val (Cj b)] [.cells b 86 [.val (Qq b u), .val v]] fun e h => ∃ _ : Unit, e = .ret (.tup []) ∧ h = [.cells b 86 [.val (Cj b), .val v]] := by
 obtain ⟨j, hj, hj0⟩ := Rb
 refine Dd (ts := []) Tryz.f54.ntmps Tryz.func54 rfl rfl rfl (by simp [Tryz.ntmps54]) fun W I => ?_
 cases u with
 | false =>
   repeat' (first
    | ((with_reducible apply jp); (focus ((with_reducible apply OC); rfl; rfl; rfl)); (focus rfl))
    | ((with_reducible apply jp); (focus ((with_reducible apply (MK (j := j))); rfl; rfl; rfl; (focus assumption))); (focus rfl))
    | ((with_reducible apply jp); (focus ((with_reducible apply (KZ (j := j))); rfl; (focus exact Ai); (focus exact Nat.succ_pos _); rfl; rfl; (focus assumption); (focus assumption))); (focus rfl))
    | ((with_reducible apply jp); (focus ((with_reducible apply (H5 (j := j))); rfl; (focus exact Ai); rfl; rfl; (focus assumption); (focus exact liesBuilder))); (focus rfl))
    | ((with_reducible apply jp); (focus ((with_reducible apply Kd); rfl; (focus exact Tryz.func94); (focus (kernel_rfl)); (focus (kernel_rfl)); (focus (kernel_rfl)); (focus (kernel_rfl)))); (focus rfl))
    | exact True.intro | refine AM ?_ | refine two ?_ ?_
    | (refine imp fun hc => ?_) <;> try exact cx hc
    | refine all fun v_ => ?_)
   exact ⟨(), rfl, rfl⟩
 | true =>
   repeat' (first
    | ((with_reducible apply jp); (focus ((with_reducible apply OC); rfl; rfl; rfl)); (focus rfl))
    | ((with_reducible apply jp); (focus ((with_reducible apply (MK (j := j))); rfl; rfl; rfl; (focus assumption))); (focus rfl))
    | ((with_reducible apply jp); (focus ((with_reducible apply (KZ (j := j))); rfl; (focus exact Ai); (focus exact Nat.succ_pos _); rfl; rfl; (focus assumption); (focus assumption))); (focus rfl))
    | ((with_reducible apply jp); (focus ((with_reducible apply (H5 (j := j))); rfl; (focus exact Ai); rfl; rfl; (focus assumption); (focus exact liesBuilder))); (focus rfl))
    | ((with_reducible apply jp); (focus ((with_reducible apply Kd); rfl; (focus exact Tryz.func94); (focus (kernel_rfl)); (focus (kernel_rfl)); (focus (kernel_rfl)); (focus (kernel_rfl)))); (focus rfl))
    | exact True.intro | refine AM ?_ | refine two ?_ ?_
    | (refine imp fun hc => ?_) <;> try exact cx hc
    | refine all fun v_ => ?_)
   exact ⟨(), rfl, rfl⟩
theorem Fp (G : List (Nat × List D)) (b : Nat) (u : Bool) (q : Sl) (xs : List UInt8) (c : UInt8) (hb : xs.length ≤ 140737488355327) : AC Tryz.prog G 30 [.val (Cj b), AV.byte c] [.cells b 86 [.val (Qq b u), .val q.v], AF q.v 5 1 Bb xs] fun e h => ∃ q' : Sl, e = .ret (.val .nilIface) ∧ h = [.cells b 86 [.val (Cj b), .val q'.v], AF q'.v 5 1 Bb (xs ++ [c])] := by
 refine Dd (ts := [4]) Tryz.f30.ntmps Tryz.func30 rfl rfl rfl (by simp [Tryz.ntmps30]) fun W I => ?_
 repeat' (first
  | refine cag H8 (OB G b u q.v) ?_
  | exact True.intro | refine AM ?_ | refine two ?_ ?_
  | (refine imp fun hc => ?_) <;> try exact cx hc
  | refine all fun v_ => ?_)
 exact ⟨_, rfl, rfl⟩
theorem D7 (G : List (Nat × List D)) (b : Nat) (u : Bool) (q : Sl) (xs l : List UInt8) (hb : xs.length + l.length ≤ 140737488355328) : AC Tryz.prog G 28 [.val (Cj b), .val (.string (tx l))] [.cells b 86 [.val (Qq b u), .val q.v], AF q.v 5 1 Bb xs] fun e h => ∃ q' : Sl, e = .ret (.tup [.int l.length, .val .nilIface]) ∧ h = [.cells b 86 [.val (Cj b), .val q'.v], AF q'.v 5 1 Bb (xs ++ l)] := by
 refine Dd (ts := [4, 5]) Tryz.f28.ntmps Tryz.func28 rfl rfl rfl (by simp [Tryz.ntmps28]) fun W I => ?_
 repeat' (first
  | refine cag H8 (OB G b u q.v) ?_
  | ((with_reducible apply (fa (ys := l))); (focus rfl); (focus rfl); (focus rfl); (focus (with_reducible exact ElC.h)); (focus exact BT); (focus rfl); (focus rfl); (focus exact Ad))
  | ((with_reducible apply jp); (focus ((with_reducible apply EJ); rfl; rfl)); (focus rfl))
  | exact True.intro | refine AM ?_ | refine two ?_ ?_
  | (refine imp fun hc => ?_) <;> try exact cx hc
  | refine all fun v_ => ?_)
 exact ⟨_, rfl, rfl⟩
theorem String (G : List (Nat × List D)) (b : Nat) (u : Bool) (q : Sl) (xs : List UInt8) (h0 : 0 < xs.length) (hb : xs.length ≤ 140737488355328) : AC Tryz.prog G 32 [.val (Cj b)] [.cells b 86 [.val (Qq b u), .val q.v], AF q.v 5 1 Bb xs] fun e h => ∃ _ : Unit, e = .ret (.val (.string (tx xs))) ∧ h = [] := by
 refine AK (ts := [2]) Tryz.f32.ntmps Tryz.func32 rfl rfl rfl (by simp [Tryz.ntmps32]) fun W I => ?_
 haveI fS_ : Jr 0 := ⟨⟩
 repeat' (first
  | ((with_reducible apply jqp); (focus ((with_reducible apply (SA (xs := xs))); rfl; (focus exact Ai); (focus assumption))); (focus rfl))
  | ((with_reducible apply (cm (xs := xs) (q := q))); (focus rfl); (focus rfl); (focus rfl); (focus (kernel_rfl)); (focus ((repeat (first | exact Sel.here | with_reducible apply Sel.there)); done)); (focus assumption); (focus rfl); (focus assumption))
  | exact True.intro
  | refine stp ?_
  | refine two ?_ ?_
  | (refine imp fun hc => ?_) <;> try exact cx hc
  | refine all fun v_ => ?_)
 clear fS_
 refine ⟨Bs 2 mixed (by (repeat (with_reducible apply Aa)); exact len_nil) (by decide +kernel) ?_⟩
 repeat' (first
  | ((with_reducible apply jqp); (focus ((with_reducible apply (SA (xs := xs))); rfl; (focus exact Ai); (focus assumption))); (focus rfl))
  | ((with_reducible apply (cm (xs := xs) (q := q))); (focus rfl); (focus rfl); (focus rfl); (focus (kernel_rfl)); (focus ((repeat (first | exact Sel.here | with_reducible apply Sel.there)); done)); (focus assumption); (focus rfl); (focus assumption))
  | exact True.intro | refine AM ?_ | refine two ?_ ?_
  | (refine imp fun hc => ?_) <;> try exact cx hc
  | refine all fun v_ => ?_)
 refine AO (VS.drop (List.nil_sublist _)) ?_
 ((with_reducible apply rq1); rfl; rfl)
 exact ⟨(), rfl, rfl⟩
end Go.Proofs.YtajnpfgelpkijaaGreatDoor
namespace Go.Sp
open Go Go.Av
theorem RS (c : UInt8) : ∀ (K : List (List UInt8)), (∀ l ∈ K, c ∉ l) → spl c (K.flatMap fun l => l ++ [c]) = K ++ [[]]
 | [], _ => rfl
 | l :: K, h => by
   rw [List.flatMap_cons, List.append_assoc, List.singleton_append, I8 c l _ (h l List.mem_cons_self), RS c K fun x hx => h x (List.mem_cons_of_mem _ hx)]; rfl
theorem Uw (c : UInt8) : ∀ (K : List (List UInt8)), jn c (K ++ [[]]) = K.flatMap fun l => l ++ [c]
 | [] => rfl
 | l :: K => by
   rw [List.cons_append, K8 c l (by simp), Uw c K, List.flatMap_cons]; simp
theorem cy {c d : UInt8} (hd : d ≠ c) : ∀ (l : Ln), (∀ w ∈ l, d ∉ w) → d ∉ jn c l
 | [], _ => by simp [jn]
 | [w], h => h w List.mem_cons_self
 | w :: v :: l, h => by
   rw [jn]
   intro k
   rcases List.mem_append.1 k with k | k
   · exact h w List.mem_cons_self k
   · rcases List.mem_cons.1 k with k | k
     · exact hd k
     · exact cy hd (v :: l) (fun x hx => h x (List.mem_cons_of_mem _ hx)) k
abbrev LL (l : Ln) : List UInt8 := jn 32 l ++ [10]
theorem Xe (v : Vr) : JO v = LL (UA v) := by
 unfold JO LL UA
 simp [jn, ai, QT]
theorem X7 (vars : List Vr) (s : St) : HU vars s = LL (Vy vars s) := by
 unfold HU LL Vy Kp
 rw [K8 _ _ (by simp), LH]
 simp [Zj, Kr]
theorem Wg (vars : List Vr) (r : Ru) : Dx vars r = (KL vars r).flatMap LL := by
 unfold Dx KL LL
 rw [List.flatMap_cons, LH, List.flatMap_map]
 congr 1
 congr 1
 funext s
 exact X7 vars s
theorem Wx (vars : List Vr) (l : List Fo) : EG vars l = LL (LN vars l) := by
 unfold EG LL LN
 rw [LH]
theorem Tq (vars : List Vr) (l : List Fo) : HP vars l = LL (J4 vars l) := by
 unfold HP LL J4
 rw [LH]
theorem RN (t : Tk) : Bo t = (C1 t).flatMap LL := by
 unfold Bo C1
 rw [List.flatMap_append, List.flatMap_append, List.flatMap_append, List.flatMap_map, List.flatMap_map, List.flatMap_assoc]
 congr 1
 · congr 1
   · congr 1
     · congr 1; funext v; exact Xe v
     · congr 1; funext r; exact Wg _ r
   · congr 1; funext p; exact Wx _ p
 · rw [Tq]; simp
def WdT (w : List UInt8) : Prop := (32 : UInt8) ∉ w ∧ (10 : UInt8) ∉ w
theorem WdT.of {w : List UInt8} (h : ∀ b ∈ w, b.toNat ≠ 32 ∧ b.toNat ≠ 10) : WdT w := ⟨fun k => (h _ k).1 rfl, fun k => (h _ k).2 rfl⟩
theorem PU (n : Int) : WdT (Lib.itoa n) := WdT.of fun b hb => by have := Ij n b hb; omega
theorem Ua {s : ByteArray} (h : Bl s) : WdT s.data.toList := WdT.of fun b hb => by have := MW h b hb; omega
theorem ag {vars : List Vr} (hn : ∀ v ∈ vars, Bl v.name) (i : Int) : WdT (Kp vars i) := by
 unfold Kp
 by_cases h : i.toNat < vars.length
 · rw [List.getElem?_eq_getElem h]; exact Ua (hn _ (List.getElem_mem h))
 · rw [List.getElem?_eq_none (by omega)]; exact ⟨by simp, by simp⟩
theorem JA {vars : List Vr} (hn : ∀ v ∈ vars, Bl v.name) {np : Int} {l : List Fo} (h : ∀ o ∈ l, OpP vars.length np o) : ∀ w ∈ l.map (Bx vars), WdT w := by
 intro w hw
 obtain ⟨o, ho, rfl⟩ := List.mem_map.1 hw
 exact WdT.of (Tc hn (h o ho))
theorem JB {t : Tk} (h : TkP t) : ∀ l ∈ C1 t, l ≠ [] ∧ ∀ w ∈ l, WdT w := by
 intro l hl
 unfold C1 at hl
 have hd : ∀ {w : List UInt8} {ws : Ln}, WdT w → (∀ x ∈ ws, WdT x) → ∀ x ∈ w :: ws, WdT x := fun h1 h2 x hx => by
  rcases List.mem_cons.1 hx with rfl | hx
  · exact h1
  · exact h2 x hx
 rcases List.mem_append.1 hl with hl | hl
 · rcases List.mem_append.1 hl with hl | hl
   · rcases List.mem_append.1 hl with hl | hl
     · obtain ⟨v, hv, rfl⟩ := List.mem_map.1 hl
       refine ⟨by simp [UA], hd (by unfold WdT; decide) (hd (Ua (h.names v hv)) (hd (PU _) (hd (PU _) (hd (PU _) (by simp)))))⟩
     · obtain ⟨r, hr, hl⟩ := List.mem_flatMap.1 hl
       rcases List.mem_cons.1 hl with rfl | hl
       · exact ⟨by simp, hd (by unfold WdT; decide) (JA h.names (h.guards r hr).ops)⟩
       · obtain ⟨s, hs, rfl⟩ := List.mem_map.1 hl
         exact ⟨by simp [Vy], hd (by unfold WdT; decide) (hd (ag h.names _) (JA h.names (h.sets r hr s hs).2.2.ops))⟩
   · obtain ⟨p, hp, rfl⟩ := List.mem_map.1 hl
     exact ⟨by simp [LN], hd (by unfold WdT; decide) (JA h.names (h.props p hp).ops)⟩
 · rw [List.mem_singleton] at hl
   subst hl
   exact ⟨by simp [J4], hd (by unfold WdT; decide) (JA h.names h.form.ops)⟩
theorem Gx {t : Tk} (h : TkP t) : spl 10 (Bo t) = (C1 t).map (jn 32) ++ [[]] := by
 have e : Bo t = ((C1 t).map (jn 32)).flatMap fun l => l ++ [10] := by rw [RN, List.flatMap_map]
 rw [e, RS]
 intro l hl
 obtain ⟨k, hk, rfl⟩ := List.mem_map.1 hl
 exact cy (by decide) k fun w hw => ((JB h k hk).2 w hw).2
theorem HN {t : Tk} (h : TkP t) : ((C1 t).map (jn 32)).map (spl 32) = C1 t := by
 rw [List.map_map]
 conv => rhs; rw [← List.map_id (C1 t)]
 refine List.map_congr_left fun l hl => ?_
 obtain ⟨h1, h2⟩ := JB h l hl
 exact Za 32 l h1 fun w hw => (h2 w hw).1
theorem Tl {t : Tk} {s : List UInt8} {L : List (List UInt8)} (h : spl 10 s = L ++ [[]]) (hL : L.map (spl 32) = C1 t) : s = Bo t := by
 have e : (C1 t).map (jn 32) = L := by
  rw [← hL, List.map_map]
  conv => rhs; rw [← List.map_id L]
  exact List.map_congr_left fun l _ => TA 32 l
 rw [← TA 10 s, h, Uw, ← e, List.flatMap_map, ← RN]
noncomputable def RC (size bad : Int) (s : ByteArray) : Tk × Int :=
 if 10000 < s.size then (tk0, size) else
 match Cg ⟨tk0, 0⟩ ((spl 10 s.data.toList).dropLast.map (spl 32)) with
 | some q => if q.tm = 3 ∧ (spl 10 s.data.toList).getLast? = some [] ∧ A2 q.t = 0 then (q.t, 0) else (tk0, bad)
 | none => (tk0, bad)
def TY (s : List UInt8) : List (List UInt8) := if (spl 10 s).getLast? = some [] then (spl 10 s).dropLast else spl 10 s
def KH (a : List UInt8 → Int) (s : List UInt8) : Tk := ((TY s).map (spl 32)).foldl (BW a) tk0
open Classical in
noncomputable def GY (a : List UInt8 → Int) (size bad : Int) (s : ByteArray) : Tk × Int :=
 if 10000 < s.size then (tk0, size) else
 if (DD (KH a s.data.toList)).2 = 0 ∧ (DD (KH a s.data.toList)).1 = s then (KH a s.data.toList, 0) else (tk0, bad)
theorem YN {a : List UInt8 → Int} (ha : Pj a) {t : Tk} (h : TkP t) : KH a (Bo t) = t := by
 unfold KH TY
 rw [Gx h, if_pos (by simp), List.dropLast_concat, HN h]
 exact W6 ha h
theorem We {a : List UInt8 → Int} (ha : Pj a) (size bad : Int) (s : ByteArray) : GY a size bad s = RC size bad s := by
 unfold GY RC
 by_cases c : 10000 < s.size
 · rw [if_pos c, if_pos c]
 rw [if_neg c, if_neg c]
 -- what the reference accepts was shown
 have key : ∀ q : Rs, Cg ⟨tk0, 0⟩ ((spl 10 s.data.toList).dropLast.map (spl 32)) = some q → q.tm = 3 → (spl 10 s.data.toList).getLast? = some [] → A2 q.t = 0 → s.data.toList = Bo q.t := by
  intro q e h1 h2 h3
  obtain ⟨t, tm⟩ := q
  dsimp only at h1 h3 ⊢
  subst h1
  have g := TkP.of h3
  have e2 := TM e g
  have e3 : spl 10 s.data.toList = (spl 10 s.data.toList).dropLast ++ [[]] := by
   obtain ⟨ys, hy⟩ := List.getLast?_eq_some_iff.1 h2
   rw [hy, List.dropLast_concat]
  exact Tl e3 e2.symm
 by_cases ok : (DD (KH a s.data.toList)).2 = 0 ∧ (DD (KH a s.data.toList)).1 = s
 · rw [if_pos ok]
   obtain ⟨o1, o2⟩ := ok
   have ht : A2 (KH a s.data.toList) = 0 := by
    apply Classical.byContradiction
    intro hc
    unfold DD at o1
    rw [if_pos hc] at o1
    exact hc o1
   have g := TkP.of ht
   unfold DD at o2
   rw [if_neg (fun k => k ht)] at o2
   have es : s.data.toList = Bo (KH a s.data.toList) := by
    have := congrArg (fun x : ByteArray => x.data.toList) o2
    simpa using this.symm
   have el := Gx g
   rw [← es] at el
   have er := Im g
   rw [el, List.dropLast_concat, HN g, er]
   simp only
   rw [if_pos (by simp [ht])]
 · rw [if_neg ok]
   cases e : Cg ⟨tk0, 0⟩ ((spl 10 s.data.toList).dropLast.map (spl 32)) with
   | none => rfl
   | some q =>
     simp only
     by_cases c2 : q.tm = 3 ∧ (spl 10 s.data.toList).getLast? = some [] ∧ A2 q.t = 0
     · exfalso
       have es := key q e c2.1 c2.2.1 c2.2.2
       have ep : KH a s.data.toList = q.t := by rw [es]; exact YN ha (TkP.of c2.2.2)
       refine ok ?_
       rw [ep]
       unfold DD
       rw [if_neg (fun k => k c2.2.2)]
       exact ⟨rfl, by rw [← es]⟩
     · rw [if_neg c2]
theorem HG {α : Type} {f : α → List UInt8} {k : Nat} : ∀ (l : List α), (∀ x ∈ l, (f x).length ≤ k) → (l.flatMap f).length ≤ k * l.length
 | [], _ => Nat.zero_le _
 | x :: l, h => by
   have h1 := h x List.mem_cons_self
   have h2 := HG l fun y hy => h y (List.mem_cons_of_mem _ hy)
   rw [List.flatMap_cons, List.length_append, List.length_cons, Nat.mul_succ]; omega
theorem XP {v : Vr} (hn : Bl v.name) (h : -1000 ≤ v.low ∧ v.low ≤ 1000 ∧ -1000 ≤ v.high ∧ v.high ≤ 1000 ∧ -1000 ≤ v.init ∧ v.init ≤ 1000) : (JO v).length ≤ 50 := by
 have h0 := Gy hn
 have h1 := D4 (n := v.low) (by omega) (by omega)
 have h2 := D4 (n := v.high) (by omega) (by omega)
 have h3 := D4 (n := v.init) (by omega) (by omega)
 unfold JO ai
 simp only [List.length_append, List.length_cons, List.length_nil]; omega
theorem Yx {vars : List Vr} (hn : ∀ v ∈ vars, Bl v.name) (i : Int) : (Kp vars i).length ≤ 8 := by
 unfold Kp
 by_cases h : i.toNat < vars.length
 · rw [List.getElem?_eq_getElem h]; exact Gy (hn _ (List.getElem_mem h))
 · rw [List.getElem?_eq_none (by omega)]; exact Nat.zero_le _
theorem Zm {vars : List Vr} (hn : ∀ v ∈ vars, Bl v.name) {s : St} {k : Nat} (h : ∀ o ∈ s.val, OpP vars.length 0 o) (hk : s.val.length ≤ k) : (HU vars s).length ≤ 13 + 13 * k := by
 have h1 := Yx hn s.var
 have h2 := Cs hn (by decide) s.val h
 unfold Kp at h1
 unfold HU Zj
 simp only [List.length_append, List.length_cons, List.length_nil]; omega
theorem Vx {vars : List Vr} (hn : ∀ v ∈ vars, Bl v.name) {r : Ru} {g n k : Nat} (h : ∀ o ∈ r.guard, OpP vars.length 0 o) (hg : r.guard.length ≤ g) (hs : r.sets.length ≤ n) (h2 : ∀ s ∈ r.sets, (∀ o ∈ s.val, OpP vars.length 0 o) ∧ s.val.length ≤ k) : (Dx vars r).length ≤ 5 + 13 * g + (13 + 13 * k) * n := by
 have h1 := Cs hn (by decide) r.guard h
 have h3 := HG (f := HU vars) (k := 13 + 13 * k) r.sets fun s hs => Zm hn (h2 s hs).1 (h2 s hs).2
 have h4 := Nat.mul_le_mul_left (13 + 13 * k) hs
 unfold Dx HS
 simp only [List.length_append, List.length_cons, List.length_nil]; omega
theorem VO {vars : List Vr} (hn : ∀ v ∈ vars, Bl v.name) {p : List Fo} {k : Nat} (h : ∀ o ∈ p, OpP vars.length 0 o) (hk : p.length ≤ k) : (EG vars p).length ≤ 5 + 13 * k := by
 have h1 := Cs hn (by decide) p h
 unfold EG Hb
 simp only [List.length_append, List.length_cons, List.length_nil]; omega
theorem TB {vars : List Vr} (hn : ∀ v ∈ vars, Bl v.name) {np : Int} (hp : np ≤ 6) {p : List Fo} {k : Nat} (h : ∀ o ∈ p, OpP vars.length np o) (hk : p.length ≤ k) : (HP vars p).length ≤ 6 + 13 * k := by
 have h1 := Cs hn hp p h
 unfold HP Ep
 simp only [List.length_append, List.length_cons, List.length_nil]; omega
theorem Kk {t : Tk} (h : TkP t) {nv nr g n k np p f : Nat} (hv : t.model.vars.length ≤ nv) (hr : t.model.rules.length ≤ nr) (h1 : ∀ r ∈ t.model.rules, r.guard.length ≤ g ∧ r.sets.length ≤ n ∧ ∀ s ∈ r.sets, s.val.length ≤ k)
 (hp : t.props.length ≤ np) (h2 : ∀ q ∈ t.props, q.length ≤ p) (hf : t.formula.length ≤ f) : (Bo t).length ≤ 50 * nv + (5 + 13 * g + (13 + 13 * k) * n) * nr + (5 + 13 * p) * np + (6 + 13 * f) := by
 have a1 := HG (f := JO) (k := 50) t.model.vars fun v hv => XP (h.names v hv) (h.range v hv)
 have a2 := HG (f := Dx t.model.vars) (k := 5 + 13 * g + (13 + 13 * k) * n) t.model.rules fun r hr => Vx h.names (h.guards r hr).ops (h1 r hr).1 (h1 r hr).2.1 fun s hs => ⟨(h.sets r hr s hs).2.2.ops, (h1 r hr).2.2 s hs⟩
 have a3 := HG (f := EG t.model.vars) (k := 5 + 13 * p) t.props fun q hq => VO h.names (h.props q hq).ops (h2 q hq)
 have np6 : (t.props.length : Int) ≤ 6 := by have := h.props6; omega
 have a4 := TB h.names np6 h.form.ops hf
 have b1 := Nat.mul_le_mul_left 50 hv
 have b2 := Nat.mul_le_mul_left (5 + 13 * g + (13 + 13 * k) * n) hr
 have b3 := Nat.mul_le_mul_left (5 + 13 * p) hp
 unfold Bo
 rw [List.length_append, List.length_append, List.length_append]; omega
theorem TU {t : Tk} (h : TkP t) : (Bo t).length ≤ 80000 := by
 have := Kk h (nv := 6) (nr := 12) (g := 60) (n := 6) (k := 60) (np := 6) (p := 60) (f := 60) h.vars6 h.rules
  (fun r hr => ⟨(h.guards r hr).few, h.sets6 r hr, fun s hs => (h.sets r hr s hs).2.2.few⟩) h.props6 (fun q hq => (h.props q hq).few) h.form.few
 omega
theorem QV {t : Tk} (h : A2 t = 0) (hl : (Bo t).length ≤ 10000) (size bad : Int) : RC size bad (tx (Bo t)) = (t, 0) := by
 have g := TkP.of h
 unfold RC
 rw [if_neg (by rw [PR]; omega), show (tx (Bo t)).data.toList = Bo t by simp, Gx g, List.dropLast_concat, HN g, Im g]
 simp only
 rw [if_pos (by simp [h])]
def Ae (w : List UInt8) : Int := match Lib.atoiAll w with
 | .ok v => v
 | .range => Lib.atoiSat w
 | _ => 0
theorem Uc : ∀ (l : List UInt8) (acc : Nat), acc ≤ l.foldl (fun a b => a * 10 + (b.toNat - 48)) acc
 | [], acc => Nat.le_refl _
 | b :: l, acc => by
   have := Uc l (acc * 10 + (b.toNat - 48))
   rw [List.foldl_cons]; omega
theorem Mk : ∀ (l : List UInt8) (acc : Nat), (∀ b ∈ l, 48 ≤ b.toNat ∧ b.toNat ≤ 57) → l.foldl (fun a b => a * 10 + (b.toNat - 48)) acc < 1000000 → Lib.parseUint10 acc l = .ok (l.foldl (fun a b => a * 10 + (b.toNat - 48)) acc)
 | [], acc, _, _ => rfl
 | b :: l, acc, h, hl => by
   rw [List.foldl_cons] at hl ⊢
   have h1 := Uc l (acc * 10 + (b.toNat - 48))
   rw [Lib.parseUint10, if_pos (h b List.mem_cons_self), if_neg (by omega), if_neg (by omega)]
   exact Mk l _ (fun x hx => h x (List.mem_cons_of_mem _ hx)) hl
theorem Na {n : Nat} (h : n < 1000000) : Lib.parseMag (Lib.decDigits n) = .ok n := by
 have e : (Lib.decDigits n).foldl (fun a b => a * 10 + (b.toNat - 48)) 0 = n := Gm n
 unfold Lib.parseMag
 rw [if_neg (Zs n), Mk _ 0 (Eb n) (by rw [e]; exact h), e]
theorem W4 {n : Int} (h1 : -100000 ≤ n) (h2 : n ≤ 100000) : Lib.atoiAll (Lib.itoa n) = .ok n := by
 unfold Lib.itoa
 by_cases c : n < 0
 · rw [if_pos c]
   unfold Lib.atoiAll
   simp only
   rw [if_pos (by decide), Na (by omega)]
   simp only
   rw [if_neg (fun k => k.1 (by decide)), if_neg (by omega), if_pos (by decide)]
   congr 1; omega
 · rw [if_neg c]
   obtain ⟨b, l, e, q1, q2⟩ := Jw n.toNat
   have hp := Na (n := n.toNat) (by omega)
   rw [e] at hp ⊢
   unfold Lib.atoiAll
   simp only
   rw [if_neg (by omega), hp]
   simp only
   rw [if_neg (by omega), if_neg (by omega), if_neg (by omega)]
   congr 1; omega
theorem Zl : Pj Ae := fun n h1 h2 => by
 unfold Ae
 rw [W4 (by omega) (by omega)]
theorem RE (c : UInt8) : ∀ (s : List UInt8), c ∉ s → Lib.index s [c] = -1
 | [], _ => rfl
 | b :: s, h => by
   have hb : ¬ c = b := fun e => h (by rw [e]; exact List.mem_cons_self)
   rw [Lib.index, if_neg (by simp [List.isPrefixOf, hb]), RE c s fun k => h (List.mem_cons_of_mem _ k)]
   rfl
theorem Rp (c : UInt8) : ∀ (w r : List UInt8), c ∉ w → Lib.index (w ++ c :: r) [c] = w.length
 | [], r, _ => by
   rw [List.nil_append, Lib.index, if_pos (by simp [List.isPrefixOf])]; rfl
 | b :: w, r, h => by
   have hb : ¬ c = b := fun e => h (by rw [e]; exact List.mem_cons_self)
   have ih := Rp c w r fun k => h (List.mem_cons_of_mem _ k)
   rw [List.cons_append, Lib.index, if_neg (by simp [List.isPrefixOf, hb]), ih, if_neg (by simp), List.length_cons]
   omega
theorem MU (c : UInt8) : ∀ (n : Nat) (s : List UInt8), s.length < n → Lib.splitK [c] 0 (Lib.count s [c]) s = spl c s
 | 0, s, h => by omega
 | n + 1, s, h => by
   by_cases hc : c ∈ s
   · obtain ⟨w, r, e, hw⟩ := List.eq_append_cons_of_mem hc
     subst e
     have hi := Rp c w r hw
     have hr : (w ++ c :: r).drop (w.length + 1) = r := by rw [List.drop_append]; simp
     rw [Lib.count_hit (by simp) hi, List.length_singleton, hr, Nat.add_comm, Lib.splitK, if_neg (by rw [hi]; simp), hi]
     rw [List.length_singleton, Int.toNat_natCast, Nat.add_zero, hr, I8 c w r hw, List.take_left]
     rw [MU c n r (by rw [List.length_append, List.length_cons] at h; omega)]
   · rw [Lib.count_miss (RE c s hc), Lib.splitK, Je c s hc]
theorem TX (c : UInt8) (s : ByteArray) : Lib.splitB (tx [c]) 0 (Lib.countB s (tx [c])) s = (spl c s.data.toList).map tx := by
 have h := Lib.splitB_data (tx [c]) 0 (Lib.countB s (tx [c])) s
 have e : (tx [c]).data.toList = [c] := by simp
 rw [e] at h
 have h2 : Lib.splitK [c] 0 (Lib.countB s (tx [c])) s.data.toList = spl c s.data.toList := by
  show Lib.splitK [c] 0 (Lib.count s.data.toList (tx [c]).data.toList) s.data.toList = _
  rw [e]
  exact MU c _ _ (Nat.lt_succ_self _)
 rw [← h2, ← h, List.map_map]
 conv => lhs; rw [← List.map_id (Lib.splitB (tx [c]) 0 (Lib.countB s (tx [c])) s)]
 exact List.map_congr_left fun x _ => (FJ x).symm
def IH : List (List UInt8) → List (List UInt8)
 | [] => []
 | [w] => if w = [] then [] else [w]
 | w :: v :: ws => (w ++ [10]) :: IH (v :: ws)
def BK (s : List UInt8) : List (List UInt8) := IH (spl 10 s)
theorem Eo : BK [] = [] := rfl
theorem RR {w : List UInt8} (h : (10 : UInt8) ∉ w) (r : List UInt8) : BK (w ++ 10 :: r) = (w ++ [10]) :: BK r := by
 unfold BK
 rw [I8 10 w r h]
 cases e : spl 10 r with
 | nil => exact absurd e (GQ 10 r)
 | cons v ws => rfl
theorem R0 {w : List UInt8} (h : (10 : UInt8) ∉ w) (hw : w ≠ []) : BK w = [w] := by
 unfold BK
 rw [Je 10 w h, IH, if_neg hw]
theorem Vs (w : List UInt8) : Lib.trimSuffix (w ++ [10]) [10] = w := by
 unfold Lib.trimSuffix Lib.hasSuffix
 rw [if_pos (by simp)]
 simp
theorem Ve {w : List UInt8} (h : (10 : UInt8) ∉ w) : Lib.trimSuffix w [10] = w := by
 unfold Lib.trimSuffix Lib.hasSuffix
 rw [if_neg]
 intro k
 have := List.isSuffixOf_iff_suffix.1 k
 obtain ⟨t, e⟩ := this
 exact h (by rw [← e]; simp)
theorem OL : ∀ K : List (List UInt8), K ≠ [] → (∀ w ∈ K, (10 : UInt8) ∉ w) → (IH K).map (fun w => Lib.trimSuffix w [10]) = if K.getLast? = some [] then K.dropLast else K
 | [], h, _ => absurd rfl h
 | [w], _, h => by
   rw [IH]
   by_cases hw : w = []
   · rw [if_pos hw, if_pos (by simp [hw])]; rfl
   · rw [if_neg hw, if_neg (by simp [hw]), List.map_cons, Ve (h w List.mem_cons_self)]; rfl
 | w :: v :: ws, _, h => by
   have ih := OL (v :: ws) (by simp) fun x hx => h x (List.mem_cons_of_mem _ hx)
   have e : (w :: v :: ws).getLast? = (v :: ws).getLast? := rfl
   rw [IH, List.map_cons, Vs, ih, e]
   split <;> rfl
theorem SP (s : List UInt8) : (BK s).map (fun w => Lib.trimSuffix w [10]) = TY s :=
 OL (spl 10 s) (GQ 10 s) (Yz 10 s)
theorem UI (a : List UInt8 → Int) (s : List UInt8) : KH a s = (BK s).foldl (fun t w => BW a t (spl 32 (Lib.trimSuffix w [10]))) tk0 := by
 unfold KH
 rw [← SP, List.map_map, List.foldl_map]
 rfl
theorem Rf {w : List UInt8} {j : Nat} (hj : j < 16) (h : B7 (j + 3 : Nat) = w) (hw : w ≠ []) (hn : ∀ i, i < j → B7 (i + 3 : Nat) ≠ w) : D3 w = some j := by
 unfold D3
 rw [List.find?_eq_some_iff_getElem]
 refine ⟨decide_eq_true ⟨h, hw⟩, j, by simpa using hj, by simp, fun i hi => ?_⟩
 simp only [List.getElem_range, Bool.not_eq_true', decide_eq_false_iff_not]
 exact fun k => hn i hi k.1
theorem Rt {w : List UInt8} (hn : ∀ i, i < 16 → B7 (i + 3 : Nat) ≠ w) : D3 w = none := Gl fun i hi => absurd hi (hn i.val i.isLt)
theorem Qm : D3 [] = none := Gl fun _ _ => rfl
theorem Ty {l : List Vr} {w : List UInt8} : ∀ (i : Nat) (h : i < l.length), l[i].name.data.toList = w → (∀ j (hj : j < i), (l[j]'(Nat.lt_trans hj h)).name.data.toList ≠ w) → Be l w = i := by
 induction l with
 | nil => intro i h; simp at h
 | cons v l ih =>
   intro i h e hn
   cases i with
   | zero =>
     rw [Be, if_pos (by simpa using e)]; rfl
   | succ i =>
     have h1 : i < l.length := by simpa using h
     have ih' := ih i h1 (by simpa using e) fun j hj => by have := hn (j + 1) (by omega); simpa using this
     rw [Be, if_neg (by have := hn 0 (by omega); simpa using this), ih', if_neg (by omega)]
     omega
theorem K9 (c : UInt8) : ∀ s : List UInt8, (spl c s).length ≤ s.length + 1
 | [] => by simp [spl]
 | b :: l => by
   have ih := K9 c l
   have hne := GQ c l
   unfold spl
   split
   · simp only [List.length_cons]; omega
   · cases h : spl c l with
     | nil => exact absurd h hne
     | cons w ws => rw [h] at ih; simp only [List.length_cons] at ih ⊢; omega
theorem JY (c : UInt8) : ∀ s : List UInt8, ∀ w ∈ spl c s, w.length ≤ s.length
 | [], w, h => by simp [spl] at h; subst h; exact Nat.le_refl _
 | b :: l, w, h => by
   have ih := JY c l
   unfold spl at h
   split at h
   · rcases List.mem_cons.1 h with rfl | h
     · simp
     · have := ih w h; simp only [List.length_cons]; omega
   · cases hs : spl c l with
     | nil => exact absurd hs (GQ c l)
     | cons v vs =>
       rw [hs] at h ih
       dsimp only at h
       rcases List.mem_cons.1 h with rfl | h
       · have := ih v (by simp); simp only [List.length_cons]; omega
       · have := ih w (by simp [h]); simp only [List.length_cons]; omega
theorem Ji : ∀ s : List UInt8, (10 : UInt8) ∉ s → Lib.indexByte s 10 = -1
 | [], _ => rfl
 | b :: l, h => by
   simp only [List.mem_cons, not_or] at h
   have hb : (b == 10) = false := by simpa using fun e => h.1 e.symm
   rw [Lib.indexByte, hb, Ji l h.2]
   rfl
theorem JU : ∀ (w r : List UInt8), (10 : UInt8) ∉ w → Lib.indexByte (w ++ 10 :: r) 10 = w.length
 | [], r, _ => rfl
 | b :: w, r, h => by
   simp only [List.mem_cons, not_or] at h
   have hb : (b == 10) = false := by simpa using fun e => h.1 e.symm
   have ih := JU w r h.2
   rw [List.cons_append, Lib.indexByte, hb, ih]
   have h1 : ((w.length : Int) == -1) = false := by simp
   simp only [h1, Bool.false_eq_true, if_false, List.length_cons]
   omega
theorem Nj {s : List UInt8} (h : s ≠ []) : (0 ≤ Lib.indexByte s 10 ∧ (Lib.indexByte s 10).toNat < s.length ∧ BK s = s.take ((Lib.indexByte s 10).toNat + 1) :: BK (s.drop ((Lib.indexByte s 10).toNat + 1))) ∨ (Lib.indexByte s 10 < 0 ∧ BK s = s :: BK []) := by
 by_cases hm : (10 : UInt8) ∈ s
 · left
   obtain ⟨w, r, rfl, hw⟩ := List.eq_append_cons_of_mem hm
   rw [JU w r hw]
   have e1 : (w ++ 10 :: r).take (w.length + 1) = w ++ [10] := by
    rw [show w ++ 10 :: r = (w ++ [10]) ++ r by simp]
    exact List.take_left' (by simp)
   have e2 : (w ++ 10 :: r).drop (w.length + 1) = r := by
    rw [show w ++ 10 :: r = (w ++ [10]) ++ r by simp]
    exact List.drop_left' (by simp)
   refine ⟨by omega, by simp, ?_⟩
   rw [show ((w.length : Int)).toNat = w.length by omega, e1, e2, RR hw]
 · right
   rw [Ji s hm]
   exact ⟨by decide, by rw [R0 hm h, Eo]⟩
theorem Rw : ∀ (n : Nat) (s : List UInt8), s.length ≤ n → ∀ x ∈ BK s, x.length ≤ s.length
 | 0, s, h, x, hx => by
   have : s = [] := List.length_eq_zero_iff.1 (by omega)
   subst this
   rw [Eo] at hx
   cases hx
 | n + 1, s, h, x, hx => by
   by_cases h0 : s = []
   · subst h0; rw [Eo] at hx; cases hx
   rcases Nj h0 with ⟨a, b, e⟩ | ⟨a, e⟩
   · rw [e] at hx
     rcases List.mem_cons.1 hx with rfl | hx
     · exact List.length_take_le' _ _
     · have hl : (s.drop ((Lib.indexByte s 10).toNat + 1)).length ≤ n := by rw [List.length_drop]; omega
       have := Rw n _ hl x hx
       rw [List.length_drop] at this
       omega
   · rw [e, Eo] at hx
     rcases List.mem_cons.1 hx with rfl | hx
     · exact Nat.le_refl _
     · cases hx
theorem ZC (w : List UInt8) : Lib.hasPrefix w [80] = true ↔ ∃ r, w = 80 :: r := by
 cases w with
 | nil => exact ⟨fun h => (by cases h), fun ⟨r, h⟩ => (by cases h)⟩
 | cons b l =>
   have e : Lib.hasPrefix (b :: l) [80] = (80 == b) := by simp [Lib.hasPrefix, List.isPrefixOf]
   rw [e]
   constructor
   · intro h; exact ⟨l, by rw [← eq_of_beq h]⟩
   · rintro ⟨r, h⟩; cases h; rfl
theorem dd (r : List UInt8) : Lib.trimPrefix (80 :: r) [80] = r := by
 unfold Lib.trimPrefix; rw [if_pos ((ZC (80 :: r)).2 ⟨r, rfl⟩)]; rfl

noncomputable def QN (t : Tk) (st cl c : Int) (d : Int) : Bool := decide (kept t.formula (tAt t.formula (Bz t st) cl) (tAt t.formula (Bz t c) d))
theorem Sw {t : Tk} (h : A2 t = 0) {st cl c d : Int} (h0 : 0 ≤ cl) (h1 : cl < BF t) (h2 : 0 ≤ d) (h3 : d < BF t) : Dq t.formula (Bz t st) cl (Bz t c) d = (QN t st cl c d, 0) := by
 have e1 := Hh h (Bz t st) (Hq t st) h0 h1
 have e2 := Hh h (Bz t c) (Hq t c) h2 h3
 unfold Dq
 rw [if_neg (by simp), e1, e2, if_neg (by simp), if_neg (by simp)]
 rfl
noncomputable def Ik (t : Tk) (st cl c : Int) (k : Nat) : List Fo := ((List.range k).filter fun d : Nat => QN t st cl c d).map fun d : Nat => ⟨c, d⟩
theorem ZX {t : Tk} {st cl c : Int} {k : Nat} (h : QN t st cl c k = true) : Ik t st cl c (k + 1) = Ik t st cl c k ++ [⟨c, k⟩] := by
 unfold Ik
 rw [List.range_succ, List.filter_append, List.map_append]
 simp [h]
theorem b6 {t : Tk} {st cl c : Int} {k : Nat} (h : QN t st cl c k = false) : Ik t st cl c (k + 1) = Ik t st cl c k := by
 unfold Ik
 rw [List.range_succ, List.filter_append, List.map_append]
 simp [h]
theorem SY (t : Tk) (st cl c : Int) (k : Nat) : (Ik t st cl c k).length ≤ k := by
 unfold Ik
 rw [List.length_map]
 exact Nat.le_trans (List.length_filter_le _ _) (by simp)
noncomputable def J3 (t : Tk) (st cl : Int) (cs : List Int) : List Fo := cs.flatMap fun c => Ik t st cl c (BF t)
theorem WE (t : Tk) (st cl : Int) (cs : List Int) (i : Nat) (h : i < cs.length) : J3 t st cl (cs.take (i + 1)) = J3 t st cl (cs.take i) ++ Ik t st cl cs[i] (BF t) := by
 unfold J3
 rw [List.take_succ_eq_append_getElem h, List.flatMap_append]
 simp
theorem ML (t : Tk) (st cl : Int) : ∀ cs : List Int, (J3 t st cl cs).length ≤ cs.length * 64
 | [] => by simp [J3]
 | c :: cs => by
   have ih := ML t st cl cs
   have h1 := SY t st cl c (BF t)
   have h2 := (FA t).2
   have e : J3 t st cl (c :: cs) = Ik t st cl c (BF t) ++ J3 t st cl cs := by simp [J3]
   rw [e, List.length_append, List.length_cons]
   omega
noncomputable def Ao (t : Tk) (st cl : Int) : List Fo × Int :=
 if A2 t ≠ 0 then ([], A2 t)
 else if ¬ ((0 ≤ st ∧ st < AR t.model.vars) ∧ 0 ≤ cl ∧ cl < BF t) then ([], 9)
 else (J3 t st cl (EF t.model st).1, 0)
theorem N5 {m : Md} (hm : Ah m = 0) (c : Int) : (EF m c).1.length ≤ 4096 := by
 by_cases h : (CW m c).2 ≠ 0
 · rw [KJ h]; exact Nat.zero_le _
 · rw [Ld (Decidable.not_not.1 h)]
   obtain ⟨n, hn, n1, n2⟩ := GD hm
   dsimp only
   split
   · simp
   · rw [hn, Int.toNat_natCast]; exact Nat.le_trans (RT _ _) n2

instance : DecidableEq Fo := fun a b => decidable_of_iff (a.kind = b.kind ∧ a.val = b.val) ⟨fun h => Fo.ext' h.1 h.2, fun h => by subst h; exact ⟨rfl, rfl⟩⟩
def plc (b : Fo) : List Fo → Nat
 | [] => 0
 | a :: l => if a = b then 0 else plc b l + 1
theorem Xr (b : Fo) : ∀ l : List Fo, plc b l ≤ l.length
 | [] => Nat.le_refl _
 | a :: l => by
   have := Xr b l
   rw [plc]; split
   · exact Nat.zero_le _
   · simp; omega
theorem XT {b : Fo} : ∀ {l : List Fo}, b ∈ l ↔ plc b l < l.length
 | [] => by simp [plc]
 | a :: l => by
   rw [List.mem_cons, plc]
   by_cases h : a = b
   · rw [if_pos h]; simp [h]
   · rw [if_neg h, List.length_cons, XT (l := l)]
     exact ⟨fun k => k.elim (fun e => absurd e.symm h) (fun k => by omega), fun k => .inr (by omega)⟩
theorem Uo {b : Fo} {l : List Fo} (h : b ∉ l) : plc b l = l.length := by
 have h1 := Xr b l
 have h2 : ¬ plc b l < l.length := fun k => h (XT.2 k)
 omega
def GW (sp : List Fo) (b : Fo) : List Fo := if b ∈ sp then sp else sp ++ [b]
theorem ax {sp : List Fo} {b : Fo} (h : b ∈ sp) : GW sp b = sp := if_pos h
theorem Zt {sp : List Fo} {b : Fo} (h : b ∉ sp) : GW sp b = sp ++ [b] := if_neg h
theorem P8 (sp : List Fo) (b : Fo) : sp.length ≤ (GW sp b).length := by
 unfold GW; split
 · exact Nat.le_refl _
 · simp
def BY : List Fo → List Fo → List Fo × List Int
 | sp, [] => (sp, [])
 | sp, b :: bs => ((BY (GW sp b) bs).1, (plc b sp : Int) :: (BY (GW sp b) bs).2)
theorem Xq : ∀ (bs sp : List Fo), sp.length ≤ (BY sp bs).1.length
 | [], sp => Nat.le_refl _
 | b :: bs, sp => Nat.le_trans (P8 sp b) (Xq bs _)
theorem HW : ∀ (bs sp : List Fo), (BY sp bs).2.length = bs.length
 | [], sp => rfl
 | b :: bs, sp => by rw [BY]; simp [HW bs]
structure Exp where
 spots : List Fo
 next : List (List Int)
 sets : List Int
noncomputable def Gj (t : Tk) : Nat → Nat → List Fo → List (List Int) → List Int → Option Exp
 | 0, _, _, _, _ => none
 | f + 1, i, sp, nx, st =>
   match sp[i]? with
   | none => some ⟨sp, nx, st⟩
   | some s =>
     if 20000 < (BY sp (Ao t s.kind s.val).1).1.length then none
     else Gj t f (i + 1) (BY sp (Ao t s.kind s.val).1).1 (nx ++ [(BY sp (Ao t s.kind s.val).1).2]) (st ++ [(DW t.formula (Ku t.model t.props s.kind).1 s.val).1])
theorem L7 (t : Tk) (f i : Nat) (sp : List Fo) (nx : List (List Int)) (st : List Int) (h : sp.length ≤ i) : Gj t (f + 1) i sp nx st = some ⟨sp, nx, st⟩ := by
 rw [Gj, List.getElem?_eq_none h]
theorem NX (t : Tk) (f i : Nat) (sp : List Fo) (nx : List (List Int)) (st : List Int) (h : i < sp.length) (hl : 20000 < (BY sp (Ao t sp[i].kind sp[i].val).1).1.length) : Gj t (f + 1) i sp nx st = none := by
 rw [Gj, List.getElem?_eq_getElem h]; exact if_pos hl
theorem O3 (t : Tk) (f i : Nat) (sp : List Fo) (nx : List (List Int)) (st : List Int) (h : i < sp.length) (hl : ¬ 20000 < (BY sp (Ao t sp[i].kind sp[i].val).1).1.length) : Gj t (f + 1) i sp nx st = Gj t f (i + 1) (BY sp (Ao t sp[i].kind sp[i].val).1).1 (nx ++ [(BY sp (Ao t sp[i].kind sp[i].val).1).2]) (st ++ [(DW t.formula (Ku t.model t.props sp[i].kind).1 sp[i].val).1]) := by
 rw [Gj, List.getElem?_eq_getElem h]; exact if_neg hl
noncomputable def BE (t : Tk) : Option Exp × Int :=
 if A2 t ≠ 0 then (none, A2 t)
 else match Gj t 20002 0 (BI t).1 [] [] with
  | none => (none, 12)
  | some e => (some e, 0)
theorem SL (t : Tk) (n : Nat) : (DV t n).Nodup := by
 unfold DV
 refine List.Pairwise.map _ (fun a b h e => h ?_) ((List.nodup_range (n := n)).filter _)
 have := congrArg Fo.val e
 exact Int.ofNat.inj this
def spV (s : Fo) : Value := .agg #[.int .i64 s.kind, .int .i64 s.val]
def Fe (n : Nat) : Value := .int .i64 n
def HM (sp : List Fo) : List (Fo × Nat) := sp.zipIdx
theorem XG (sp : List Fo) (b : Fo) : HM (sp ++ [b]) = HM sp ++ [(b, sp.length)] := by
 unfold HM; rw [List.zipIdx_append]; simp
theorem J7 (b : Fo) : ∀ (sp : List Fo) (i : Nat), getM (sp.zipIdx i) b = if b ∈ sp then some (plc b sp + i) else none
 | [], i => by simp [getM]
 | a :: sp, i => by
   have ih := J7 b sp (i + 1)
   rw [List.zipIdx_cons]
   by_cases h : a = b
   · subst h
     simp [getM, plc]
   · have hb : ¬ b = a := fun e => h e.symm
     have e : getM ((a, i) :: sp.zipIdx (i + 1)) b = getM (sp.zipIdx (i + 1)) b := by simp [getM, h]
     rw [e, ih, plc, if_neg h]
     by_cases hm : b ∈ sp
     · rw [if_pos hm, if_pos (List.mem_cons_of_mem _ hm)]; congr 1; omega
     · rw [if_neg hm, if_neg (fun k => by rcases List.mem_cons.1 k with k | k; exact hb k; exact hm k)]
theorem cC {b : Fo} {sp : List Fo} (h : b ∈ sp) : getM (HM sp) b = some (plc b sp) := by
 have := J7 b sp 0
 rw [if_pos h] at this; exact this
theorem RJ {b : Fo} {sp : List Fo} (h : b ∉ sp) : getM (HM sp) b = none := by
 have := J7 b sp 0
 rw [if_neg h] at this; exact this

theorem Yq {sp : List Fo} {b c : Fo} : c ∈ GW sp b ↔ c ∈ sp ∨ c = b := by
 unfold GW
 by_cases h : b ∈ sp
 · rw [if_pos h]; exact ⟨.inl, fun k => k.elim id fun e => e ▸ h⟩
 · rw [if_neg h]; simp
theorem Zz (sp : List Fo) (b : Fo) : ∃ r, GW sp b = sp ++ r := by
 unfold GW
 split
 · exact ⟨[], by simp⟩
 · exact ⟨[b], rfl⟩
theorem Lr : ∀ (bs sp : List Fo), ∃ r, (BY sp bs).1 = sp ++ r
 | [], sp => ⟨[], by simp [BY]⟩
 | b :: bs, sp => by
   obtain ⟨r, h⟩ := Zz sp b
   obtain ⟨r', h'⟩ := Lr bs (GW sp b)
   exact ⟨r ++ r', by rw [BY]; dsimp only; rw [h', h, List.append_assoc]⟩
theorem P7 : ∀ (bs sp : List Fo) (c : Fo), c ∈ (BY sp bs).1 ↔ c ∈ sp ∨ c ∈ bs
 | [], sp, c => by simp [BY]
 | b :: bs, sp, c => by
   rw [BY]; dsimp only
   rw [P7 bs, Yq, List.mem_cons, or_assoc]
theorem UC {sp : List Fo} (h : sp.Nodup) (b : Fo) : (GW sp b).Nodup := by
 unfold GW
 by_cases hb : b ∈ sp
 · rw [if_pos hb]; exact h
 · rw [if_neg hb, List.nodup_append]
   exact ⟨h, by simp, fun x hx y hy e => by rw [List.mem_singleton.1 hy] at e; exact hb (e ▸ hx)⟩
theorem ME : ∀ (bs : List Fo) {sp : List Fo}, sp.Nodup → (BY sp bs).1.Nodup
 | [], _, h => h
 | b :: bs, _, h => ME bs (UC h b)
theorem U4 {b : Fo} : ∀ {l : List Fo}, b ∈ l → l[plc b l]? = some b
 | [], h => by cases h
 | a :: l, h => by
   rw [plc]
   by_cases e : a = b
   · rw [if_pos e, e]; rfl
   · rw [if_neg e, List.getElem?_cons_succ]
     exact U4 ((List.mem_cons.1 h).resolve_left fun k => e k.symm)
theorem Yi (sp : List Fo) (b : Fo) : (GW sp b)[plc b sp]? = some b := by
 unfold GW
 by_cases h : b ∈ sp
 · rw [if_pos h]; exact U4 h
 · rw [if_neg h, Uo h]; simp
theorem Ut {α : Type} {a b r : List α} (h : b = a ++ r) {i : Nat} {x : α} (hx : a[i]? = some x) : b[i]? = some x := by
 rw [h, List.getElem?_append_left (List.getElem?_eq_some_iff.1 hx).1]; exact hx
theorem Lx : ∀ (bs sp : List Fo) (k : Nat) (b : Fo), bs[k]? = some b → ∃ p : Nat, (BY sp bs).2[k]? = some (p : Int) ∧ (BY sp bs).1[p]? = some b
 | [], _, k, b, h => by simp at h
 | c :: bs, sp, 0, b, h => by
   simp at h; subst h
   refine ⟨plc c sp, by simp [BY], ?_⟩
   obtain ⟨r, hr⟩ := Lr bs (GW sp c)
   exact Ut hr (Yi sp c)
 | c :: bs, sp, k + 1, b, h => by
   obtain ⟨p, h1, h2⟩ := Lx bs (GW sp c) k b (by simpa using h)
   exact ⟨p, by rw [BY]; simpa using h1, h2⟩
noncomputable def spF (t : Tk) : Nat → List Fo
 | 0 => (BI t).1
 | i + 1 => match (spF t i)[i]? with
   | none => spF t i
   | some s => (BY (spF t i) (Ao t s.kind s.val).1).1
noncomputable def plF (t : Tk) (i : Nat) : List Int := match (spF t i)[i]? with
 | none => []
 | some s => (BY (spF t i) (Ao t s.kind s.val).1).2
noncomputable def seF (t : Tk) (i : Nat) : Int := match (spF t i)[i]? with
 | none => 0
 | some s => (DW t.formula (Ku t.model t.props s.kind).1 s.val).1
theorem OQ (t : Tk) (i : Nat) : ∀ d, ∃ r, spF t (i + d) = spF t i ++ r
 | 0 => ⟨[], by simp⟩
 | d + 1 => by
   obtain ⟨r, h⟩ := OQ t i d
   rw [← Nat.add_assoc, spF]
   split
   · exact ⟨r, h⟩
   · obtain ⟨r', h'⟩ := Lr _ (spF t (i + d))
     exact ⟨r ++ r', by rw [h', h, List.append_assoc]⟩
theorem Si (t : Tk) {i j : Nat} (h : i ≤ j) : (spF t i).length ≤ (spF t j).length := by
 obtain ⟨r, hr⟩ := OQ t i (j - i)
 rw [show i + (j - i) = j by omega] at hr
 rw [hr, List.length_append]; omega
theorem PB (t : Tk) {i j k : Nat} (h : i ≤ j) {s : Fo} (hs : (spF t i)[k]? = some s) : (spF t j)[k]? = some s := by
 obtain ⟨r, hr⟩ := OQ t i (j - i)
 rw [show i + (j - i) = j by omega] at hr
 exact Ut hr hs
theorem Fq (t : Tk) : ∀ i, (spF t i).Nodup
 | 0 => by
   unfold spF BI
   split
   · exact List.nodup_nil
   · exact SL _ _
 | i + 1 => by
   rw [spF]
   split
   · exact Fq t i
   · exact ME _ (Fq t i)
theorem Mf (t : Tk) : ∀ (f i : Nat) (nx : List (List Int)) (st : List Int) (e : Exp), Gj t f i (spF t i) nx st = some e →
 ∃ d, e = ⟨spF t (i + d), nx ++ (List.range d).map (fun j => plF t (i + j)), st ++ (List.range d).map (fun j => seF t (i + j))⟩ ∧ (spF t (i + d)).length ≤ i + d ∧ ∀ j, j < d → i + j < (spF t (i + j)).length ∧ (spF t (i + j + 1)).length ≤ 20000
 | 0, i, nx, st, e, h => by rw [Gj] at h; cases h
 | f + 1, i, nx, st, e, h => by
   by_cases hi : i < (spF t i).length
   · by_cases hl : 20000 < (BY (spF t i) (Ao t (spF t i)[i].kind (spF t i)[i].val).1).1.length
     · rw [NX t f i _ nx st hi hl] at h; cases h
     · rw [O3 t f i _ nx st hi hl] at h
       have hg : (spF t i)[i]? = some (spF t i)[i] := List.getElem?_eq_getElem hi
       have e1 : spF t (i + 1) = (BY (spF t i) (Ao t (spF t i)[i].kind (spF t i)[i].val).1).1 := by rw [spF, hg]
       have e2 : plF t i = (BY (spF t i) (Ao t (spF t i)[i].kind (spF t i)[i].val).1).2 := by rw [plF, hg]
       have e3 : seF t i = (DW t.formula (Ku t.model t.props (spF t i)[i].kind).1 (spF t i)[i].val).1 := by rw [seF, hg]
       rw [← e1, ← e2, ← e3] at h
       rw [← e1] at hl
       obtain ⟨d, h1, h2, h3⟩ := Mf t f (i + 1) _ _ e h
       refine ⟨d + 1, ?_, by rw [show i + (d + 1) = i + 1 + d by omega]; exact h2, fun j hj => ?_⟩
       · rw [h1, show i + (d + 1) = i + 1 + d by omega]
         congr 1
         · rw [List.append_assoc]
           congr 1
           rw [List.range_succ_eq_map, List.map_cons, List.map_map]
           simp only [List.singleton_append, Nat.add_zero, List.cons.injEq, true_and]
           exact List.map_congr_left fun j _ => by show _ = plF t (i + (j + 1)); rw [show i + (j + 1) = i + 1 + j by omega]
         · rw [List.append_assoc]
           congr 1
           rw [List.range_succ_eq_map, List.map_cons, List.map_map]
           simp only [List.singleton_append, Nat.add_zero, List.cons.injEq, true_and]
           exact List.map_congr_left fun j _ => by show _ = seF t (i + (j + 1)); rw [show i + (j + 1) = i + 1 + j by omega]
       · cases j with
         | zero => exact ⟨hi, by show (spF t (i + 1)).length ≤ _; omega⟩
         | succ j =>
           have := h3 j (by omega)
           rw [show i + (j + 1) = i + 1 + j by omega]
           exact this
   · rw [L7 t f i _ nx st (by omega)] at h
     cases h
     exact ⟨0, by simp, by simpa using hi, fun j hj => absurd hj (Nat.not_lt_zero j)⟩
structure Grown (t : Tk) (e : Exp) : Prop where
 task : A2 t = 0
 spots : e.spots = spF t e.spots.length
 next : e.next = (List.range e.spots.length).map (plF t)
 sets : e.sets = (List.range e.spots.length).map (seF t)
 few : e.spots.length ≤ 20000
 room : ∀ j, j < e.spots.length → j < (spF t j).length
theorem Xh {t : Tk} {e : Exp} (h : BE t = (some e, 0)) : Grown t e := by
 unfold BE at h
 by_cases ht : A2 t ≠ 0
 · rw [if_pos ht] at h; simp at h
 rw [if_neg ht] at h
 cases hx : Gj t 20002 0 (BI t).1 [] [] with
 | none => rw [hx] at h; simp at h
 | some e' =>
   rw [hx] at h
   simp only [Prod.mk.injEq, Option.some.injEq, and_true] at h
   subst h
   obtain ⟨d, h1, h2, h3⟩ := Mf t 20002 0 [] [] e' hx
   simp only [Nat.zero_add, List.nil_append] at h1 h2 h3
   have hd : (spF t d).length = d := by
    cases d with
    | zero => omega
    | succ d =>
      have h4 := (h3 d (by omega)).1
      have h5 := Si t (i := d) (j := d + 1) (by omega)
      omega
   have hs : e'.spots = spF t d := by rw [h1]
   have hl : e'.spots.length = d := by rw [hs, hd]
   refine ⟨Decidable.not_not.1 ht, by rw [hl]; exact hs, by rw [hl, h1], by rw [hl, h1], ?_, fun j hj => (h3 j (by omega)).1⟩
   rw [hl]
   cases d with
   | zero => omega
   | succ d => have := (h3 d (by omega)).2; omega
section
variable {t : Tk} {e : Exp}
theorem Grown.at (g : Grown t e) {j : Nat} (h : j < e.spots.length) : (spF t j)[j]? = some e.spots[j] := by
 have h1 := g.room j h
 have h2 := PB t (Nat.le_of_lt h) (List.getElem?_eq_getElem h1)
 rw [← g.spots, List.getElem?_eq_getElem h] at h2
 rw [h2, List.getElem?_eq_getElem h1]
theorem Grown.step (g : Grown t e) {j : Nat} (h : j < e.spots.length) : spF t (j + 1) = (BY (spF t j) (Ao t e.spots[j].kind e.spots[j].val).1).1 ∧ plF t j = (BY (spF t j) (Ao t e.spots[j].kind e.spots[j].val).1).2 := by
 rw [spF, plF, g.at h]; exact ⟨rfl, rfl⟩
theorem Grown.nodup (g : Grown t e) : e.spots.Nodup := by rw [g.spots]; exact Fq t _
theorem Grown.get (g : Grown t e) {p : Nat} {b : Fo} (h : (spF t e.spots.length)[p]? = some b) : e.spots[p]? = some b := by
 have hs := g.spots
 generalize e.spots.length = n at hs h
 rw [hs]; exact h
theorem Grown.leads (g : Grown t e) {j : Nat} (h : j < e.spots.length) {y : Int} (hy : y ∈ plF t j) : ∃ p : Nat, y = p ∧ ∃ b, e.spots[p]? = some b ∧ b ∈ (Ao t e.spots[j].kind e.spots[j].val).1 := by
 rw [(g.step h).2] at hy
 obtain ⟨k, hk, rfl⟩ := List.getElem_of_mem hy
 have hl := HW (Ao t e.spots[j].kind e.spots[j].val).1 (spF t j)
 have hk' : k < (Ao t e.spots[j].kind e.spots[j].val).1.length := by omega
 obtain ⟨p, h1, h2⟩ := Lx (Ao t e.spots[j].kind e.spots[j].val).1 (spF t j) k _ (List.getElem?_eq_getElem hk')
 rw [List.getElem?_eq_getElem hk] at h1
 refine ⟨p, Option.some.inj h1, _, ?_, List.getElem_mem hk'⟩
 rw [← (g.step h).1] at h2
 exact g.get (PB t (by omega) h2)
theorem Grown.stepped (g : Grown t e) {j : Nat} (h : j < e.spots.length) {b : Fo} (hb : b ∈ (Ao t e.spots[j].kind e.spots[j].val).1) : ∃ p : Nat, (p : Int) ∈ plF t j ∧ e.spots[p]? = some b := by
 obtain ⟨k, hk, rfl⟩ := List.getElem_of_mem hb
 obtain ⟨p, h1, h2⟩ := Lx (Ao t e.spots[j].kind e.spots[j].val).1 (spF t j) k _ (List.getElem?_eq_getElem hk)
 refine ⟨p, ?_, ?_⟩
 · rw [(g.step h).2]; exact List.mem_of_getElem? h1
 · rw [← (g.step h).1] at h2
   exact g.get (PB t (by omega) h2)
theorem Grown.first (g : Grown t e) {p : Nat} (h : p < (BI t).1.length) : e.spots[p]? = some (BI t).1[p] :=
 g.get (PB t (i := 0) (Nat.zero_le _) (List.getElem?_eq_getElem h))
theorem Grown.init (g : Grown t e) : (BI t).1.length ≤ e.spots.length := by
 rw [g.spots]; exact Si t (i := 0) (Nat.zero_le _)
end

abbrev Py (t : Tk) (b : Fo) : Prop := (0 ≤ b.kind ∧ b.kind < AR t.model.vars) ∧ 0 ≤ b.val ∧ b.val < BF t
theorem KG {t : Tk} (h : A2 t = 0) (b : Fo) : b ∈ (BI t).1 ↔ b.kind = CR t.model ∧ ∃ c : Nat, b.val = c ∧ c < BF t ∧ tAt t.formula (Bz t (CR t.model)) c 0 = false := by
 unfold BI
 rw [if_neg (fun k => k h)]
 unfold DV
 rw [List.mem_map]
 constructor
 · rintro ⟨c, hc, rfl⟩
   rw [List.mem_filter, List.mem_range] at hc
   exact ⟨rfl, c, rfl, hc.1, by simpa using hc.2⟩
 · rintro ⟨h1, c, h2, h3, h4⟩
   refine ⟨c, by rw [List.mem_filter, List.mem_range]; exact ⟨h3, by simpa using h4⟩, ?_⟩
   exact Fo.ext' h1.symm h2.symm
theorem IZ {t : Tk} (h : A2 t = 0) {s : Fo} (hs : Py t s) (b : Fo) : b ∈ (Ao t s.kind s.val).1 ↔ b.kind ∈ (EF t.model s.kind).1 ∧ ∃ c : Nat, b.val = c ∧ c < BF t ∧ QN t s.kind s.val b.kind c = true := by
 unfold Ao
 rw [if_neg (fun k => k h), if_neg (fun k => k hs)]
 unfold J3
 rw [List.mem_flatMap]
 constructor
 · rintro ⟨x, hx, hb⟩
   unfold Ik at hb
   obtain ⟨c, hc, rfl⟩ := List.mem_map.1 hb
   rw [List.mem_filter, List.mem_range] at hc
   exact ⟨hx, c, rfl, hc.1, hc.2⟩
 · rintro ⟨h1, c, h2, h3, h4⟩
   refine ⟨b.kind, h1, ?_⟩
   unfold Ik
   rw [List.mem_map]
   exact ⟨c, by rw [List.mem_filter, List.mem_range]; exact ⟨h3, h4⟩, Fo.ext' rfl h2.symm⟩
theorem Wn {t : Tk} (h : A2 t = 0) {b : Fo} (hb : b ∈ (BI t).1) : Py t b := by
 obtain ⟨h1, c, h2, h3, _⟩ := (KG h b).1 hb
 have hf := MS (CA h).2.2
 exact ⟨h1 ▸ hf.2, by omega, by omega⟩
theorem Tg {t : Tk} (h : A2 t = 0) {s b : Fo} (hb : b ∈ (Ao t s.kind s.val).1) : Py t b := by
 by_cases hs : Py t s
 · obtain ⟨h1, c, h2, h3, _⟩ := (IZ h hs b).1 hb
   exact ⟨HT (CA h).2.2 _ _ h1, by omega, by omega⟩
 · unfold Ao at hb
   rw [if_neg (fun k => k h), if_pos hs] at hb
   cases hb
theorem LG {t : Tk} (h : A2 t = 0) : ∀ i, ∀ b ∈ spF t i, Py t b
 | 0, b, hb => Wn h hb
 | i + 1, b, hb => by
   rw [spF] at hb
   cases hs : (spF t i)[i]? with
   | none => rw [hs] at hb; exact LG h i b hb
   | some s =>
     rw [hs] at hb
     rcases (P7 _ _ _).1 hb with hb | hb
     · exact LG h i b hb
     · exact Tg h hb
def grF (t : Tk) (e : Exp) (n : Nat) : Gr := ⟨e.spots, n, e.next, e.sets, (Ak t.formula t.props.length).1.length⟩
noncomputable def gnF (t : Tk) (e : Exp) : Gn := ⟨e.spots, (BI t).1.length, e.next.map (·.map Int.toNat), e.sets.map Int.toNat, (Ak t.formula t.props.length).1.length⟩
theorem Lo (l : List Fo) (A : Nat → Bool) : ∀ n, FR l A n = C9 l (fun q _ => metAt l A q) 0 n
 | 0 => rfl
 | n + 1 => by rw [FR, C9, Lo l A n]
section
variable {t : Tk} {e : Exp}
theorem Grown.vld (g : Grown t e) : ∀ b ∈ e.spots, Py t b := fun b hb => by rw [g.spots] at hb; exact LG g.task _ b hb
theorem Grown.set (g : Grown t e) {j : Nat} (h : j < e.spots.length) : seF t j = FR t.formula (tAt t.formula (Bz t e.spots[j].kind) e.spots[j].val) t.formula.length := by
 have hv := g.vld _ (List.getElem_mem h)
 rw [seF, g.at h]
 dsimp only
 rw [Jm g.task hv.1.1 hv.1.2]
 unfold DW
 rw [Hh g.task _ (Hq t _) hv.2.1 hv.2.2, if_neg (by simp)]
theorem Grown.many (g : Grown t e) : (Ak t.formula t.props.length).1.length = Aw t.formula t.formula.length := by
 unfold Ak
 rw [if_neg (fun k => k (CA g.task).2.1), Di]
theorem Grown.gr (g : Grown t e) : (gnF t e).gr = grF t e (BI t).1.length := by
 unfold gnF grF Gn.gr
 dsimp only
 congr 1
 · rw [List.map_map, g.next, List.map_map]
   refine List.map_congr_left fun j hj => ?_
   have hj := List.mem_range.1 hj
   exact JT fun k hk => by obtain ⟨p, rfl, _⟩ := g.leads hj hk; exact Int.natCast_nonneg p
 · rw [g.sets]
   refine JT fun k hk => ?_
   obtain ⟨j, hj, rfl⟩ := List.mem_map.1 hk
   rw [g.set (List.mem_range.1 hj)]
   exact (GS _ _ _).1
theorem Grown.nx (g : Grown t e) {j : Nat} (h : j < e.spots.length) (k : Nat) : k ∈ (gnF t e).nx j ↔ (k : Int) ∈ plF t j := by
 have hl : j < (gnF t e).next.length := by simp [gnF, g.next, h]
 rw [Gn.nx_get _ _ hl]
 have e1 : (gnF t e).next[j] = (plF t j).map Int.toNat := by simp [gnF, g.next]
 rw [e1, List.mem_map]
 constructor
 · rintro ⟨y, hy, rfl⟩
   obtain ⟨p, rfl, _⟩ := g.leads h hy
   simpa using hy
 · intro hk
   exact ⟨_, hk, by simp⟩
theorem Grown.nset (g : Grown t e) {j : Nat} (h : j < e.spots.length) : ni (gnF t e).sets j = (seF t j).toNat := by
 have hl : j < (gnF t e).sets.length := by simp [gnF, g.sets, h]
 rw [Ce _ _ hl]
 simp [gnF, g.sets]
theorem Grown.bit (g : Grown t e) {j : Nat} (h : j < e.spots.length) {q : Nat} (hq : q < t.formula.length) (ha : AU (AW t.formula q)) : (ni (gnF t e).sets j).testBit (Aw t.formula q) = metAt t.formula (tAt t.formula (Bz t e.spots[j].kind) e.spots[j].val) q := by
 rw [g.nset h, g.set h, Lo]
 have hb := Du t.formula (fun q _ => metAt t.formula (tAt t.formula (Bz t e.spots[j].kind) e.spots[j].val) q) 0 t.formula.length
 have hc := G0 t.formula (fun q _ => metAt t.formula (tAt t.formula (Bz t e.spots[j].kind) e.spots[j].val) q) 0 t.formula.length q hq ha
 rw [← hc]
 unfold Rr
 generalize C9 t.formula _ 0 t.formula.length = c at hb
 obtain ⟨n, rfl⟩ := Int.eq_ofNat_of_zero_le hb.1
 rw [Int.toNat_natCast]
 have := Of n (Aw t.formula q)
 by_cases h : n.testBit (Aw t.formula q) = true
 · rw [h]; exact (decide_eq_true (this.2 h)).symm
 · rw [Bool.not_eq_true] at h
   rw [h]
   exact (decide_eq_false (fun k => by rw [this.1 k] at h; cases h)).symm
theorem Grown.ok (g : Grown t e) : (gnF t e).ok where
 size := g.few
 next := by simp [gnF, g.next]
 sets := by simp [gnF, g.sets]
 init := g.init
 many := GG _ _
 to_ := fun i h k hk => by
  have hi : i < e.spots.length := by simpa [gnF, g.next] using h
  have : k ∈ (gnF t e).nx i := by rw [Gn.nx_get _ _ h]; exact hk
  obtain ⟨p, hp, b, hb, _⟩ := g.leads hi ((g.nx hi k).1 this)
  obtain rfl : k = p := by omega
  exact (List.getElem?_eq_some_iff.1 hb).1
 bits := fun i h => by
  have hi : i < e.spots.length := by simpa [gnF, g.sets] using h
  have := g.nset hi
  rw [Ce _ _ h] at this
  rw [this, g.set hi]
  have hb := GS t.formula (tAt t.formula (Bz t e.spots[i].kind) e.spots[i].val) t.formula.length
  show _ < 2 ^ (Ak t.formula t.props.length).1.length
  rw [g.many]
  have e2 : ((2 ^ Aw t.formula t.formula.length : Nat) : Int) = 2 ^ Aw t.formula t.formula.length := by simp
  omega
end
def Vg (m : Md) (π : Nat → Int) : Prop := π 0 = CR m ∧ ∀ i, π (i + 1) ∈ (EF m (π i)).1
noncomputable def NI (t : Tk) (π : Nat → Int) (i v : Nat) : Bool := ((Bz t (π i))[v]?).getD false
noncomputable def KF (t : Tk) (π : Nat → Int) : Prop := iAt t.formula (NI t π) 0 0 = true
def F9 (t : Tk) : Prop := ∀ π, Vg t.model π → KF t π
theorem Vg.range {t : Tk} (h : A2 t = 0) {π : Nat → Int} (r : Vg t.model π) : ∀ i, 0 ≤ π i ∧ π i < AR t.model.vars
 | 0 => by rw [r.1]; exact (MS (CA h).2.2).2
 | i + 1 => HT (CA h).2.2 _ _ (r.2 i)
section
variable {t : Tk} {e : Exp}
theorem Grown.edge (g : Grown t e) {i j : Nat} (hi : i < e.spots.length) (h : j ∈ (gnF t e).nx i) : ∃ (hj : j < e.spots.length), e.spots[j].kind ∈ (EF t.model e.spots[i].kind).1 ∧ kept t.formula (tAt t.formula (Bz t e.spots[i].kind) e.spots[i].val) (tAt t.formula (Bz t e.spots[j].kind) e.spots[j].val) := by
 obtain ⟨p, hp, b, hb, hm⟩ := g.leads hi ((g.nx hi j).1 h)
 obtain rfl : j = p := by omega
 obtain ⟨hj, rfl⟩ := List.getElem?_eq_some_iff.1 hb
 obtain ⟨h1, c, h2, _, h4⟩ := (IZ g.task (g.vld _ (List.getElem_mem hi)) _).1 hm
 refine ⟨hj, h1, ?_⟩
 unfold QN at h4
 rw [h2]
 exact of_decide_eq_true h4
theorem Grown.bad (g : Grown t e) {ω : Nat → Nat} (h0 : ω 0 < (BI t).1.length) (hs : ∀ i, ω (i + 1) ∈ (gnF t e).nx (ω i)) (hf : ∀ s, s < (gnF t e).many → ∀ i, ∃ j, i ≤ j ∧ (ni (gnF t e).sets (ω j)).testBit s = true) (π : Nat → Int) (hπ : ∀ i, (e.spots[ω i]?).map Fo.kind = some (π i)) : Vg t.model π ∧ ¬ KF t π := by
 have hin := g.init
 have hlt : ∀ i, ω i < e.spots.length := fun i => by
  cases i with
  | zero => omega
  | succ i => exact (gnF t e).nx_lt g.ok _ _ (hs i)
 have hπ' : ∀ i, π i = (e.spots[ω i]'(hlt i)).kind := fun i => by
  have := hπ i
  rw [List.getElem?_eq_getElem (hlt i)] at this
  exact (Option.some.inj this).symm
 have hb : e.spots[ω 0]'(hlt 0) ∈ (BI t).1 := by
  have := g.first h0
  rw [List.getElem?_eq_getElem (hlt 0)] at this
  rw [Option.some.inj this]; exact List.getElem_mem h0
 obtain ⟨b1, c, b2, b3, b4⟩ := (KG g.task _).1 hb
 refine ⟨⟨by rw [hπ']; exact b1, fun i => ?_⟩, fun hk => ?_⟩
 · obtain ⟨_, h1, _⟩ := g.edge (hlt i) (hs i)
   rw [hπ', hπ']; exact h1
 · have hx : NI t π = fun i v => ((Bz t ((e.spots[ω i]'(hlt i)).kind))[v]?).getD false := by
    funext i v; unfold NI; rw [hπ']
   have key := SN (Hg (CA g.task).2.1) (fun i => Bz t ((e.spots[ω i]'(hlt i)).kind)) (fun i => (e.spots[ω i]'(hlt i)).val)
    (fun i => (g.edge (hlt i) (hs i)).2.2)
    (fun q hq ha i => by
     have hr : Aw t.formula q < (gnF t e).many := by
      show _ < (Ak t.formula t.props.length).1.length
      rw [g.many]
      have h1 := F0 t.formula (t.formula.length - (q + 1)) (q + 1)
      rw [show q + 1 + (t.formula.length - (q + 1)) = t.formula.length by omega] at h1
      simp only [Aw, if_pos ha] at h1
      omega
     obtain ⟨j, hj, hb⟩ := hf _ hr i
     rw [g.bit (hlt j) hq ha] at hb
     exact ⟨j, hj, hb⟩)
   unfold KF at hk
   rw [hx, ← key] at hk
   rw [b1, b2, b4] at hk
   cases hk
theorem Grown.good (g : Grown t e) {π : Nat → Int} (r : Vg t.model π) (hk : ¬ KF t π) : ∃ h, h < e.spots.length ∧ Ej (gnF t e) h := by
 have hgf := Hg (CA g.task).2.1
 have hr := r.range g.task
 let c : Nat → Int := FT t.formula (NI t π)
 have hc : ∀ i, ∃ n : Nat, c i = n ∧ n < BF t := fun i => by
  have := PW t.formula (NI t π) i
  rw [NR g.task]
  have e2 : ((2 ^ Aw t.formula t.formula.length : Nat) : Int) = 2 ^ Aw t.formula t.formula.length := by simp
  obtain ⟨n, hn⟩ := Int.eq_ofNat_of_zero_le this.1
  exact ⟨n, hn, by rw [hn, ← e2] at this; omega⟩
 have hvl : ∀ i, Py t ⟨π i, c i⟩ := fun i => by obtain ⟨n, h1, h2⟩ := hc i; exact ⟨hr i, by dsimp only; omega, by dsimp only; omega⟩
 have hx : ∀ i v, ((Bz t (π i))[v]?).getD false = NI t π i v := fun i v => rfl
 have hb0 : (⟨π 0, c 0⟩ : Fo) ∈ (BI t).1 := by
  obtain ⟨n, h1, h2⟩ := hc 0
  refine (KG g.task _).2 ⟨r.1, n, h1, h2, ?_⟩
  rw [← h1, ← r.1]
  rw [CT hgf (NI t π) _ 0 (hx 0) t.formula.length 0 (by omega) hgf.pos]
  unfold KF at hk
  rwa [Bool.not_eq_true] at hk
 have hst : ∀ i, (⟨π (i + 1), c (i + 1)⟩ : Fo) ∈ (Ao t (π i) (c i)).1 := fun i => by
  obtain ⟨n, h1, h2⟩ := hc (i + 1)
  refine (IZ g.task (hvl i) _).2 ⟨r.2 i, n, h1, h2, ?_⟩
  unfold QN
  refine decide_eq_true ?_
  dsimp only
  rw [← h1]
  exact QC hgf (NI t π) _ _ i (hx i) (hx (i + 1))
 have hall : ∀ i, ∃ p : Nat, e.spots[p]? = some ⟨π i, c i⟩ := fun i => by
  induction i with
  | zero =>
    obtain ⟨p, hp, h1⟩ := List.getElem_of_mem hb0
    exact ⟨p, by rw [g.first hp, h1]⟩
  | succ i ih =>
    obtain ⟨p, hp⟩ := ih
    obtain ⟨hpl, hpe⟩ := List.getElem?_eq_some_iff.1 hp
    obtain ⟨q, _, h2⟩ := g.stepped hpl (b := ⟨π (i + 1), c (i + 1)⟩) (by rw [hpe]; exact hst i)
    exact ⟨q, h2⟩
 let ω : Nat → Nat := fun i => Classical.choose (hall i)
 have hω : ∀ i, e.spots[ω i]? = some ⟨π i, c i⟩ := fun i => Classical.choose_spec (hall i)
 have uniq : ∀ {p q : Nat} {b : Fo}, e.spots[p]? = some b → e.spots[q]? = some b → p = q := fun {p q b} h1 h2 => by
  obtain ⟨hp, e1⟩ := List.getElem?_eq_some_iff.1 h1
  obtain ⟨hq, e2⟩ := List.getElem?_eq_some_iff.1 h2
  exact (List.getElem_inj g.nodup).1 (e1.trans e2.symm)
 have hin := g.init
 refine Vp (π := ω) g.ok ?_ (fun i => ?_) (fun s hs i => ?_)
 · obtain ⟨p, hp, h1⟩ := List.getElem_of_mem hb0
   have := uniq (hω 0) (by rw [g.first hp, h1])
   rw [this]; exact hp
 · obtain ⟨hp, hpe⟩ := List.getElem?_eq_some_iff.1 (hω i)
   obtain ⟨q, h1, h2⟩ := g.stepped hp (b := ⟨π (i + 1), c (i + 1)⟩) (by rw [hpe]; exact hst i)
   rw [uniq (hω (i + 1)) h2, g.nx hp]
   exact h1
 · have hs' : s < Aw t.formula t.formula.length := by rw [← g.many]; exact hs
   obtain ⟨q, hq, ha, rfl⟩ : ∃ q, q < t.formula.length ∧ AU (AW t.formula q) ∧ Aw t.formula q = s := by
    have h1 := FO t.formula t.formula.length 0 (by omega)
    simp only [Aw, List.drop_zero, Nat.add_zero] at h1
    obtain ⟨q, _, _, h3, h4, h5⟩ := Mu t.formula t.formula.length 0 (by omega) s _ (List.getElem?_eq_getElem (by rw [List.drop_zero, h1]; exact hs'))
    exact ⟨q, h3, h4, by simpa [Aw] using h5⟩
   obtain ⟨j, hj, hm⟩ := UR hgf (NI t π) (fun i => Bz t (π i)) hx hq ha i
   obtain ⟨hp, hpe⟩ := List.getElem?_eq_some_iff.1 (hω j)
   refine ⟨j, hj, ?_⟩
   rw [g.bit hp hq ha, hpe]
   exact hm
theorem Grown.holds (g : Grown t e) : (Cp (grF t e (BI t).1.length)).2 ≠ 0 ↔ F9 t := by
 rw [← g.gr, Hu g.ok]
 constructor
 · intro h π r
   by_cases hk : KF t π
   · exact hk
   · obtain ⟨i, hi, hg⟩ := g.good r hk
     exfalso
     obtain ⟨k, hk1, hk2⟩ := QR (p := fun i => i < e.spots.length ∧ Ej (gnF t e) i) i ⟨hi, hg⟩
     rw [Rz (g := gnF t e) (i := k) (fun j hj hg => by have := hk2 j ⟨by have := hk1.1; omega, hg⟩; omega) hk1.1 hk1.2] at h
     exact h rfl
 · intro h he
   by_cases c : ∃ i, i < e.spots.length ∧ Ej (gnF t e) i
   · obtain ⟨i, hi, hg⟩ := c
     obtain ⟨stem, loop, hfit⟩ := Sz g.ok hi hg
     obtain ⟨h1, h2⟩ := g.bad (ω := fun i => ni (stem ++ loop) (EM stem.length (stem ++ loop).length i)) hfit.start hfit.way hfit.meets (fun i => ((e.spots[ni (stem ++ loop) (EM stem.length (stem ++ loop).length i)]?).map Fo.kind).getD 0) (fun i => by
      have hl : ∀ i, ni (stem ++ loop) (EM stem.length (stem ++ loop).length i) < e.spots.length := fun i => by
       cases i with
       | zero => have := hfit.start; have := g.init; show ni _ 0 < _; exact Nat.lt_of_lt_of_le hfit.start g.init
       | succ i => exact (gnF t e).nx_lt g.ok _ _ (hfit.way i)
      rw [List.getElem?_eq_getElem (hl i)]; rfl)
     exact h2 (h _ h1)
   · rw [MQ (g := gnF t e) (fun j hj hg => c ⟨j, hj, hg⟩)] at he
     cases he
end

theorem Ng (b : Fo) : ∀ (bs sp : List Fo), BY sp (bs ++ [b]) = (GW (BY sp bs).1 b, (BY sp bs).2 ++ [(plc b (BY sp bs).1 : Int)])
 | [], sp => by simp [BY]
 | c :: bs, sp => by
   rw [List.cons_append, BY, Ng b bs]
   simp [BY]
theorem N0 (bs sp : List Fo) (k : Nat) (h : k < bs.length) : BY sp (bs.take (k + 1)) = (GW (BY sp (bs.take k)).1 bs[k], (BY sp (bs.take k)).2 ++ [(plc bs[k] (BY sp (bs.take k)).1 : Int)]) := by
 rw [List.take_succ_eq_append_getElem h, Ng]
theorem OJ (bs sp : List Fo) : ∀ (k d : Nat), (BY sp (bs.take k)).1.length ≤ (BY sp (bs.take (k + d))).1.length
 | k, 0 => Nat.le_refl _
 | k, d + 1 => by
   refine Nat.le_trans (OJ bs sp k d) ?_
   by_cases h : k + d < bs.length
   · rw [← Nat.add_assoc, N0 bs sp (k + d) h]; exact P8 _ _
   · rw [List.take_of_length_le (by omega), List.take_of_length_le (by omega)]; exact Nat.le_refl _
structure FD (t : Tk) (i : Nat) : Prop where
 task : A2 t = 0
 room : ∀ j, j < i → j < (spF t j).length ∧ (spF t (j + 1)).length ≤ 20000
theorem OM (t : Tk) : (BI t).1.length ≤ 64 := by
 unfold BI
 split
 · exact Nat.zero_le _
 · exact Nat.le_trans (MT t _) (FA t).2
theorem FD.few {t : Tk} {i : Nat} (g : FD t i) : (spF t i).length ≤ 20000 := by
 cases i with
 | zero => have := OM t; rw [spF]; omega
 | succ i => exact (g.room i (by omega)).2
theorem FD.le {t : Tk} {i : Nat} (g : FD t i) : i ≤ (spF t i).length := by
 cases i with
 | zero => exact Nat.zero_le _
 | succ i =>
   have h1 := (g.room i (by omega)).1
   have h2 := Si t (i := i) (j := i + 1) (by omega)
   omega
theorem SC {t : Tk} {i : Nat} (h : i < (spF t i).length) : spF t (i + 1) = (BY (spF t i) (Ao t (spF t i)[i].kind (spF t i)[i].val).1).1 ∧ plF t i = (BY (spF t i) (Ao t (spF t i)[i].kind (spF t i)[i].val).1).2 ∧ seF t i = (DW t.formula (Ku t.model t.props (spF t i)[i].kind).1 (spF t i)[i].val).1 := by
 rw [spF, plF, seF, List.getElem?_eq_getElem h]
 exact ⟨rfl, rfl, rfl⟩
theorem FD.next {t : Tk} {i : Nat} (g : FD t i) (h : i < (spF t i).length) (hl : (spF t (i + 1)).length ≤ 20000) : FD t (i + 1) :=
 ⟨g.task, fun j hj => by
  by_cases e : j = i
  · subst e; exact ⟨h, hl⟩
  · exact g.room j (by omega)⟩
theorem QD (t : Tk) : ∀ (d f i : Nat) (nx : List (List Int)) (st : List Int), d < f → (∀ j, j < d → i + j < (spF t (i + j)).length ∧ (spF t (i + j + 1)).length ≤ 20000) →
 Gj t f i (spF t i) nx st = Gj t (f - d) (i + d) (spF t (i + d)) (nx ++ (List.range d).map (fun j => plF t (i + j))) (st ++ (List.range d).map (fun j => seF t (i + j)))
 | 0, f, i, nx, st, _, _ => by simp
 | d + 1, f, i, nx, st, hf, h => by
   obtain ⟨f', rfl⟩ : ∃ f', f = f' + 1 := ⟨f - 1, by omega⟩
   have h0 := h 0 (by omega)
   rw [Nat.add_zero] at h0
   obtain ⟨e1, e2, e3⟩ := SC h0.1
   rw [O3 t f' i _ nx st h0.1 (by rw [← e1]; omega), ← e1, ← e2, ← e3]
   rw [QD t d f' (i + 1) _ _ (by omega) (fun j hj => by
    have := h (j + 1) (by omega)
    rw [show i + (j + 1) = i + 1 + j by omega] at this
    exact this)]
   rw [show f' + 1 - (d + 1) = f' - d by omega, show i + 1 + d = i + (d + 1) by omega]
   congr 1
   · rw [List.append_assoc]
     congr 1
     rw [List.range_succ_eq_map, List.map_cons, List.map_map]
     simp only [List.singleton_append, Nat.add_zero, List.cons.injEq, true_and]
     exact List.map_congr_left fun j _ => by show _ = plF t (i + (j + 1)); rw [show i + (j + 1) = i + 1 + j by omega]
   · rw [List.append_assoc]
     congr 1
     rw [List.range_succ_eq_map, List.map_cons, List.map_map]
     simp only [List.singleton_append, Nat.add_zero, List.cons.injEq, true_and]
     exact List.map_congr_left fun j _ => by show _ = seF t (i + (j + 1)); rw [show i + (j + 1) = i + 1 + j by omega]
theorem FD.run {t : Tk} {i : Nat} (g : FD t i) : Gj t 20002 0 (BI t).1 [] [] = Gj t (20002 - i) i (spF t i) ((List.range i).map (plF t)) ((List.range i).map (seF t)) := by
 have h1 := g.le
 have h2 := g.few
 have := QD t i 20002 0 [] [] (by omega) (fun j hj => by rw [Nat.zero_add]; exact g.room j hj)
 simp only [Nat.zero_add, List.nil_append] at this
 exact this
theorem FD.all {t : Tk} {i : Nat} (g : FD t i) (h : (spF t i).length ≤ i) : BE t = (some ⟨spF t i, (List.range i).map (plF t), (List.range i).map (seF t)⟩, 0) := by
 have h1 := g.le
 have h2 := g.few
 unfold BE
 rw [if_neg (fun k => k g.task), g.run]
 obtain ⟨f, hf⟩ : ∃ f, 20002 - i = f + 1 := ⟨20001 - i, by omega⟩
 rw [hf, L7 t f i _ _ _ h]
theorem FD.full {t : Tk} {i : Nat} (g : FD t i) (h : i < (spF t i).length) (hl : 20000 < (BY (spF t i) (Ao t (spF t i)[i].kind (spF t i)[i].val).1).1.length) : BE t = (none, 12) := by
 have h2 := g.few
 unfold BE
 rw [if_neg (fun k => k g.task), g.run]
 obtain ⟨f, hf⟩ : ∃ f, 20002 - i = f + 1 := ⟨20001 - i, by omega⟩
 rw [hf, NX t f i _ _ _ h hl]
noncomputable def exG (t : Tk) : Gr := match (BE t).1 with
 | none => ⟨[], 0, [], [], 0⟩
 | some e => ⟨e.spots, (BI t).1.length, e.next, e.sets, (Ak t.formula t.props.length).1.length⟩
theorem UP (t : Tk) (st cl : Int) (hm : Ah t.model = 0) : (Ao t st cl).1.length ≤ 262144 := by
 unfold Ao
 split
 · exact Nat.zero_le _
 · split
   · exact Nat.zero_le _
   · have h1 := ML t st cl (EF t.model st).1
     have h2 := N5 hm st
     dsimp only
     omega
end Go.Sp
