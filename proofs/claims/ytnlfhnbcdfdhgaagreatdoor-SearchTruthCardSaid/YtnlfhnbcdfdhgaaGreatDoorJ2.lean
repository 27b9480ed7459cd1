/- Own texts. -/
import Derived.Test.YtnlfhnbcdfdhgaaGreatDoorF29
import Derived.Test.YtnlfhnbcdfdhgaaGreatDoorJ1
set_option linter.unusedVariables false
set_option linter.unusedSimpArgs false
set_option maxRecDepth 100000
set_option maxHeartbeats 4000000
namespace Go.Proofs.YtnlfhnbcdfdhgaaGreatDoor
open Go Go.Av
theorem iR : El Tryz.prog 66 (.agg #[.slice none 0 0, .slice none 0 0]) 2 48 := by unfold El; kernel_rfl
instance q1 : ElC Tryz.prog 66 (.agg #[.slice none 0 0, .slice none 0 0]) 2 48 := ⟨iR⟩
theorem iL : Fld Tryz.prog 66 0 0 := by unfold Fld; kernel_rfl
instance q2 : FdC Tryz.prog 66 0 0 := ⟨iL⟩
theorem iQ : Fld Tryz.prog 66 1 1 := by unfold Fld; kernel_rfl
instance q3 : FdC Tryz.prog 66 1 1 := ⟨iQ⟩
theorem iM : Bls Tryz.prog 66 [.slice none 0 0, .slice none 0 0] [(0, 1), (1, 1)] := by unfold Bls; kernel_rfl
instance q4 : Gs Tryz.prog 66 [.slice none 0 0, .slice none 0 0] [(0, 1), (1, 1)] := ⟨iM⟩
theorem iX : Bl2 Tryz.prog 66 := by unfold Bl2; kernel_rfl
instance q5 : BlC Tryz.prog 66 := ⟨iX⟩
theorem hZ : El Tryz.prog 68 (.agg #[.bool false, .slice none 0 0, .slice none 0 0]) 3 56 := by unfold El; kernel_rfl
instance q6 : ElC Tryz.prog 68 (.agg #[.bool false, .slice none 0 0, .slice none 0 0]) 3 56 := ⟨hZ⟩
theorem gm : Fld Tryz.prog 68 0 0 := by unfold Fld; kernel_rfl
instance q7 : FdC Tryz.prog 68 0 0 := ⟨gm⟩
theorem gp : Fld Tryz.prog 68 1 1 := by unfold Fld; kernel_rfl
instance q8 : FdC Tryz.prog 68 1 1 := ⟨gp⟩
theorem gZ : Bls Tryz.prog 68 [.bool false, .slice none 0 0, .slice none 0 0] [(0, 1), (1, 2)] := by unfold Bls; kernel_rfl
instance q9 : Gs Tryz.prog 68 [.bool false, .slice none 0 0, .slice none 0 0] [(0, 1), (1, 2)] := ⟨gZ⟩
theorem iY : El Tryz.prog 161 (.agg #[.slice none 0 0, .int .i64 0, .slice none 0 0, .slice none 0 0, .int .i64 0]) 5 88 := by unfold El; kernel_rfl
instance q10 : ElC Tryz.prog 161 (.agg #[.slice none 0 0, .int .i64 0, .slice none 0 0, .slice none 0 0, .int .i64 0]) 5 88 := ⟨iY⟩
theorem iJ : Fld Tryz.prog 161 0 0 := by unfold Fld; kernel_rfl
instance q11 : FdC Tryz.prog 161 0 0 := ⟨iJ⟩
theorem iN : Bls Tryz.prog 161 [.slice none 0 0, .int .i64 0, .slice none 0 0, .slice none 0 0, .int .i64 0] [(0, 5)] := by unfold Bls; kernel_rfl
instance q12 : Gs Tryz.prog 161 [.slice none 0 0, .int .i64 0, .slice none 0 0, .slice none 0 0, .int .i64 0] [(0, 5)] := ⟨iN⟩
end Go.Proofs.YtnlfhnbcdfdhgaaGreatDoor
namespace Go.Av
open Go Go.Instr
section
variable {P : Program} {G : List (Nat × List D)} {ρ : Env} {h : H} {dst : Option Tmp} {ty : TypeId} {pos : String} {after : Array Edge} {g : Option (Nat × Bool)}
theorem gG {f : FuncId} {x : Operand} {u : Value} (hx : evO ρ x = some (.val u)) : Pure P G ⟨dst, .makeFunc (.func f) #[] #[x], ty, pos, after, g⟩ ρ h (.val (.func (.func f) #[] #[u])) :=
 Ae fun w I _ a hs => ⟨_, rfl, fun w' => by
  have e1 := AL (hs.ev x) (AA hx)
  simp [execOp, Instr.makeFunc, e1]⟩
end
end Go.Av
namespace Go.Sp
open Go Go.Av
section
variable {t : Tk} {e : Exp}
theorem Grown.nodup (g : Grown t e) : e.spots.Nodup := by rw [g.spots]; exact Dv t _
theorem Grown.stepped (g : Grown t e) {j : Nat} (h : j < e.spots.length) {b : Fo} (hb : b ∈ (Ad t e.spots[j].kind e.spots[j].val).1) : ∃ p : Nat, (p : Int) ∈ plF t j ∧ e.spots[p]? = some b := by
 obtain ⟨k, hk, rfl⟩ := List.getElem_of_mem hb
 obtain ⟨p, h1, h2⟩ := Rj (Ad t e.spots[j].kind e.spots[j].val).1 (spF t j) k _ (List.getElem?_eq_getElem hk)
 refine ⟨p, ?_, ?_⟩
 · rw [(g.step h).2]; exact List.mem_of_getElem? h1
 · rw [← (g.step h).1] at h2
   exact g.get (TP t (by omega) h2)
end
def grF (t : Tk) (e : Exp) (n : Nat) : Gr := ⟨e.spots, n, e.next, e.sets, (Ai t.formula t.props.length).1.length⟩
theorem gL (l : List Fo) (A : Nat → Bool) : ∀ n, Gq l A n = fU l (fun q _ => metAt l A q) 0 n
 | 0 => rfl
 | n + 1 => by rw [Gq, fU, gL l A n]
section
variable {t : Tk} {e : Exp}
theorem Grown.vld (g : Grown t e) : ∀ b ∈ e.spots, Sm t b := fun b hb => by rw [g.spots] at hb; exact Ke g.task _ b hb
theorem Grown.set (g : Grown t e) {j : Nat} (h : j < e.spots.length) : seF t j = Gq t.formula (tAt t.formula (Di t e.spots[j].kind) e.spots[j].val) t.formula.length := by
 have hv := g.vld _ (List.getElem_mem h)
 rw [seF, g.at h]
 dsimp only
 rw [Lc g.task hv.1.1 hv.1.2]
 unfold D6
 rw [Jx g.task _ (Ju t _) hv.2.1 hv.2.2, if_neg (by simp)]
theorem Grown.many (g : Grown t e) : (Ai t.formula t.props.length).1.length = CG t.formula t.formula.length := by
 unfold Ai
 rw [if_neg (fun k => k (C0 g.task).2.1), FM]
theorem Grown.gr (g : Grown t e) : (gnF t e).gr = grF t e (A3 t).1.length := by
 unfold gnF grF Gn.gr
 dsimp only
 congr 1
 · rw [List.map_map, g.next, List.map_map]
   refine List.map_congr_left fun j hj => ?_
   have hj := List.mem_range.1 hj
   exact Pe fun k hk => by obtain ⟨p, rfl, _⟩ := g.leads hj hk; exact Int.natCast_nonneg p
 · rw [g.sets]
   refine Pe fun k hk => ?_
   obtain ⟨j, hj, rfl⟩ := List.mem_map.1 hk
   rw [g.set (List.mem_range.1 hj)]
   exact (Lx _ _ _).1
theorem Grown.nset (g : Grown t e) {j : Nat} (h : j < e.spots.length) : ni (gnF t e).sets j = (seF t j).toNat := by
 have hl : j < (gnF t e).sets.length := by simp [gnF, g.sets, h]
 rw [MJ _ _ hl]
 simp [gnF, g.sets]
theorem Grown.bit (g : Grown t e) {j : Nat} (h : j < e.spots.length) {q : Nat} (hq : q < t.formula.length) (ha : Ar (BJ t.formula q)) : (ni (gnF t e).sets j).testBit (CG t.formula q) = metAt t.formula (tAt t.formula (Di t e.spots[j].kind) e.spots[j].val) q := by
 rw [g.nset h, g.set h, gL]
 have hb := fW t.formula (fun q _ => metAt t.formula (tAt t.formula (Di t e.spots[j].kind) e.spots[j].val) q) 0 t.formula.length
 have hc := fh t.formula (fun q _ => metAt t.formula (tAt t.formula (Di t e.spots[j].kind) e.spots[j].val) q) 0 t.formula.length q hq ha
 rw [← hc]
 unfold e9
 generalize fU t.formula _ 0 t.formula.length = c at hb
 obtain ⟨n, rfl⟩ := Int.eq_ofNat_of_zero_le hb.1
 rw [Int.toNat_natCast]
 have := gW n (CG t.formula q)
 by_cases h : n.testBit (CG t.formula q) = true
 · rw [h]; exact (decide_eq_true (this.2 h)).symm
 · rw [Bool.not_eq_true] at h
   rw [h]
   exact (decide_eq_false (fun k => by rw [this.1 k] at h; cases h)).symm
theorem Grown.ok (g : Grown t e) : (gnF t e).ok where
 size := g.few
 next := by simp [gnF, g.next]
 sets := by simp [gnF, g.sets]
 init := g.init
 many := IN _ _
 to := fun i h k hk => by
  have hi : i < e.spots.length := by simpa [gnF, g.next] using h
  have : k ∈ (gnF t e).nx i := by rw [Gn.nx_get _ _ h]; exact hk
  obtain ⟨p, hp, b, hb, _⟩ := g.leads hi ((g.nx hi k).1 this)
  obtain rfl : k = p := by omega
  exact (List.getElem?_eq_some_iff.1 hb).1
 bits := fun i h => by
  have hi : i < e.spots.length := by simpa [gnF, g.sets] using h
  have := g.nset hi
  rw [MJ _ _ h] at this
  rw [this, g.set hi]
  have hb := Lx t.formula (tAt t.formula (Di t e.spots[i].kind) e.spots[i].val) t.formula.length
  show _ < 2 ^ (Ai t.formula t.props.length).1.length
  rw [g.many]
  have e2 : ((2 ^ CG t.formula t.formula.length : Nat) : Int) = 2 ^ CG t.formula t.formula.length := by simp
  omega
end
def iW (m : Md) (π : Nat → Int) : Prop := π 0 = Cc m ∧ ∀ i, π (i + 1) ∈ (EI m (π i)).1
noncomputable def gV (t : Tk) (π : Nat → Int) (i v : Nat) : Bool := ((Di t (π i))[v]?).getD false
noncomputable def fu (t : Tk) (π : Nat → Int) : Prop := iAt t.formula (gV t π) 0 0 = true
def fm (t : Tk) : Prop := ∀ π, iW t.model π → fu t π
theorem iW.range {t : Tk} (h : BL t = 0) {π : Nat → Int} (r : iW t.model π) : ∀ i, 0 ≤ π i ∧ π i < AQ t.model.vars
 | 0 => by rw [r.1]; exact (Qb (C0 h).2.2).2
 | i + 1 => KD (C0 h).2.2 _ _ (r.2 i)
section
variable {t : Tk} {e : Exp}
theorem Grown.edge (g : Grown t e) {i j : Nat} (hi : i < e.spots.length) (h : j ∈ (gnF t e).nx i) : ∃ (hj : j < e.spots.length), e.spots[j].kind ∈ (EI t.model e.spots[i].kind).1 ∧ kept t.formula (tAt t.formula (Di t e.spots[i].kind) e.spots[i].val) (tAt t.formula (Di t e.spots[j].kind) e.spots[j].val) := by
 obtain ⟨p, hp, b, hb, hm⟩ := g.leads hi ((g.nx hi j).1 h)
 obtain rfl : j = p := by omega
 obtain ⟨hj, rfl⟩ := List.getElem?_eq_some_iff.1 hb
 obtain ⟨h1, c, h2, _, h4⟩ := (SN g.task (g.vld _ (List.getElem_mem hi)) _).1 hm
 refine ⟨hj, h1, ?_⟩
 unfold Vp at h4
 rw [h2]
 exact of_decide_eq_true h4
theorem Grown.bad (g : Grown t e) {ω : Nat → Nat} (h0 : ω 0 < (A3 t).1.length) (hs : ∀ i, ω (i + 1) ∈ (gnF t e).nx (ω i)) (hf : ∀ s, s < (gnF t e).many → ∀ i, ∃ j, i ≤ j ∧ (ni (gnF t e).sets (ω j)).testBit s = true) (π : Nat → Int) (hπ : ∀ i, (e.spots[ω i]?).map Fo.kind = some (π i)) : iW t.model π ∧ ¬ fu t π := by
 have hin := g.init
 have hlt : ∀ i, ω i < e.spots.length := fun i => by
  cases i with
  | zero => omega
  | succ i => exact (gnF t e).nx_lt g.ok _ _ (hs i)
 have hπ' : ∀ i, π i = (e.spots[ω i]'(hlt i)).kind := fun i => by
  have := hπ i
  rw [List.getElem?_eq_getElem (hlt i)] at this
  exact (Option.some.inj this).symm
 have hb : e.spots[ω 0]'(hlt 0) ∈ (A3 t).1 := by
  have := g.first h0
  rw [List.getElem?_eq_getElem (hlt 0)] at this
  rw [Option.some.inj this]; exact List.getElem_mem h0
 obtain ⟨b1, c, b2, b3, b4⟩ := (Vn g.task _).1 hb
 refine ⟨⟨by rw [hπ']; exact b1, fun i => ?_⟩, fun hk => ?_⟩
 · obtain ⟨_, h1, _⟩ := g.edge (hlt i) (hs i)
   rw [hπ', hπ']; exact h1
 · have hx : gV t π = fun i v => ((Di t ((e.spots[ω i]'(hlt i)).kind))[v]?).getD false := by
    funext i v; unfold gV; rw [hπ']
   have key := gg (Kb (C0 g.task).2.1) (fun i => Di t ((e.spots[ω i]'(hlt i)).kind)) (fun i => (e.spots[ω i]'(hlt i)).val)
    (fun i => (g.edge (hlt i) (hs i)).2.2)
    (fun q hq ha i => by
     have hr : CG t.formula q < (gnF t e).many := by
      show _ < (Ai t.formula t.props.length).1.length
      rw [g.many]
      have h1 := Jo t.formula (t.formula.length - (q + 1)) (q + 1)
      rw [show q + 1 + (t.formula.length - (q + 1)) = t.formula.length by omega] at h1
      simp only [CG, if_pos ha] at h1
      omega
     obtain ⟨j, hj, hb⟩ := hf _ hr i
     rw [g.bit (hlt j) hq ha] at hb
     exact ⟨j, hj, hb⟩)
   unfold fu at hk
   rw [hx, ← key] at hk
   rw [b1, b2, b4] at hk
   cases hk
theorem Grown.good (g : Grown t e) {π : Nat → Int} (r : iW t.model π) (hk : ¬ fu t π) : ∃ h, h < e.spots.length ∧ M0 (gnF t e) h := by
 have hgf := Kb (C0 g.task).2.1
 have hr := r.range g.task
 let c : Nat → Int := fY t.formula (gV t π)
 have hc : ∀ i, ∃ n : Nat, c i = n ∧ n < BK t := fun i => by
  have := gT t.formula (gV t π) i
  rw [Uw g.task]
  have e2 : ((2 ^ CG t.formula t.formula.length : Nat) : Int) = 2 ^ CG t.formula t.formula.length := by simp
  obtain ⟨n, hn⟩ := Int.eq_ofNat_of_zero_le this.1
  exact ⟨n, hn, by rw [hn, ← e2] at this; omega⟩
 have hvl : ∀ i, Sm t ⟨π i, c i⟩ := fun i => by obtain ⟨n, h1, h2⟩ := hc i; exact ⟨hr i, by dsimp only; omega, by dsimp only; omega⟩
 have hx : ∀ i v, ((Di t (π i))[v]?).getD false = gV t π i v := fun i v => rfl
 have hb0 : (⟨π 0, c 0⟩ : Fo) ∈ (A3 t).1 := by
  obtain ⟨n, h1, h2⟩ := hc 0
  refine (Vn g.task _).2 ⟨r.1, n, h1, h2, ?_⟩
  rw [← h1, ← r.1]
  rw [fT hgf (gV t π) _ 0 (hx 0) t.formula.length 0 (by omega) hgf.pos]
  unfold fu at hk
  rwa [Bool.not_eq_true] at hk
 have hst : ∀ i, (⟨π (i + 1), c (i + 1)⟩ : Fo) ∈ (Ad t (π i) (c i)).1 := fun i => by
  obtain ⟨n, h1, h2⟩ := hc (i + 1)
  refine (SN g.task (hvl i) _).2 ⟨r.2 i, n, h1, h2, ?_⟩
  unfold Vp
  refine decide_eq_true ?_
  dsimp only
  rw [← h1]
  exact gd hgf (gV t π) _ _ i (hx i) (hx (i + 1))
 have hall : ∀ i, ∃ p : Nat, e.spots[p]? = some ⟨π i, c i⟩ := fun i => by
  induction i with
  | zero =>
    obtain ⟨p, hp, h1⟩ := List.getElem_of_mem hb0
    exact ⟨p, by rw [g.first hp, h1]⟩
  | succ i ih =>
    obtain ⟨p, hp⟩ := ih
    obtain ⟨hpl, hpe⟩ := List.getElem?_eq_some_iff.1 hp
    obtain ⟨q, _, h2⟩ := g.stepped hpl (b := ⟨π (i + 1), c (i + 1)⟩) (by rw [hpe]; exact hst i)
    exact ⟨q, h2⟩
 let ω : Nat → Nat := fun i => Classical.choose (hall i)
 have hω : ∀ i, e.spots[ω i]? = some ⟨π i, c i⟩ := fun i => Classical.choose_spec (hall i)
 have uniq : ∀ {p q : Nat} {b : Fo}, e.spots[p]? = some b → e.spots[q]? = some b → p = q := fun {p q b} h1 h2 => by
  obtain ⟨hp, e1⟩ := List.getElem?_eq_some_iff.1 h1
  obtain ⟨hq, e2⟩ := List.getElem?_eq_some_iff.1 h2
  exact (List.getElem_inj g.nodup).1 (e1.trans e2.symm)
 have hin := g.init
 refine iH (π := ω) g.ok ?_ (fun i => ?_) (fun s hs i => ?_)
 · obtain ⟨p, hp, h1⟩ := List.getElem_of_mem hb0
   have := uniq (hω 0) (by rw [g.first hp, h1])
   rw [this]; exact hp
 · obtain ⟨hp, hpe⟩ := List.getElem?_eq_some_iff.1 (hω i)
   obtain ⟨q, h1, h2⟩ := g.stepped hp (b := ⟨π (i + 1), c (i + 1)⟩) (by rw [hpe]; exact hst i)
   rw [uniq (hω (i + 1)) h2, g.nx hp]
   exact h1
 · have hs' : s < CG t.formula t.formula.length := by rw [← g.many]; exact hs
   obtain ⟨q, hq, ha, rfl⟩ : ∃ q, q < t.formula.length ∧ Ar (BJ t.formula q) ∧ CG t.formula q = s := by
    have h1 := H7 t.formula t.formula.length 0 (by omega)
    simp only [CG, List.drop_zero, Nat.add_zero] at h1
    obtain ⟨q, _, _, h3, h4, h5⟩ := gE t.formula t.formula.length 0 (by omega) s _ (List.getElem?_eq_getElem (by rw [List.drop_zero, h1]; exact hs'))
    exact ⟨q, h3, h4, by simpa [CG] using h5⟩
   obtain ⟨j, hj, hm⟩ := gw hgf (gV t π) (fun i => Di t (π i)) hx hq ha i
   obtain ⟨hp, hpe⟩ := List.getElem?_eq_some_iff.1 (hω j)
   refine ⟨j, hj, ?_⟩
   rw [g.bit hp hq ha, hpe]
   exact hm
theorem Grown.holds (g : Grown t e) : (C5 (grF t e (A3 t).1.length)).2 ≠ 0 ↔ fm t := by
 rw [← g.gr, My g.ok]
 constructor
 · intro h π r
   by_cases hk : fu t π
   · exact hk
   · obtain ⟨i, hi, hg⟩ := g.good r hk
     exfalso
     obtain ⟨k, hk1, hk2⟩ := Y0 (p := fun i => i < e.spots.length ∧ M0 (gnF t e) i) i ⟨hi, hg⟩
     rw [Yl (g := gnF t e) (i := k) (fun j hj hg => by have := hk2 j ⟨by have := hk1.1; omega, hg⟩; omega) hk1.1 hk1.2] at h
     exact h rfl
 · intro h he
   by_cases c : ∃ i, i < e.spots.length ∧ M0 (gnF t e) i
   · obtain ⟨i, hi, hg⟩ := c
     obtain ⟨stem, loop, hfit⟩ := gv g.ok hi hg
     obtain ⟨h1, h2⟩ := g.bad (ω := fun i => ni (stem ++ loop) (fX stem.length (stem ++ loop).length i)) hfit.start hfit.way hfit.meets (fun i => ((e.spots[ni (stem ++ loop) (fX stem.length (stem ++ loop).length i)]?).map Fo.kind).getD 0) (fun i => by
      have hl : ∀ i, ni (stem ++ loop) (fX stem.length (stem ++ loop).length i) < e.spots.length := fun i => by
       cases i with
       | zero => have := hfit.start; have := g.init; show ni _ 0 < _; exact Nat.lt_of_lt_of_le hfit.start g.init
       | succ i => exact (gnF t e).nx_lt g.ok _ _ (hfit.way i)
      rw [List.getElem?_eq_getElem (hl i)]; rfl)
     exact h2 (h _ h1)
   · rw [SI (g := gnF t e) (fun j hj hg => c ⟨j, hj, hg⟩)] at he
     cases he
end
section
variable {t : Tk} {e : Exp}
theorem ik (t : Tk) (l r : List Fo) : runM t (l ++ r) = r.foldl (mvF t) (runM t l) := by unfold runM; rw [List.foldl_append]
end
end Go.Sp
namespace Go.Av
open Go Go.Instr
abbrev quE (E : TypeId) (q : Qu) (xs : List Int) : Ent := .cells q.g E (q.pre ++ xs.map AV.int ++ q.post)
def Qu.tl (q : Qu) (x : Int) : Qu := if q.c = 1 then ⟨q.g, q.off, 0, q.pre, .int x :: q.post⟩ else ⟨q.g, q.off + 1, q.c - 1, q.pre ++ [.int x], q.post⟩
theorem iq (E : TypeId) (q : Qu) (x : Int) (t : List Int) (ok : q.Ok (t.length + 1)) : quE E (q.tl x) t = quE E q (x :: t) := by
 unfold Qu.tl
 by_cases h : q.c = 1
 · have h1 := ok.lo
   obtain rfl : t = [] := List.length_eq_zero_iff.1 (by omega)
   rw [if_pos h]; simp [quE]
 · rw [if_neg h]; simp [quE]
theorem Qu.Ok.tl {q : Qu} {x : Int} {n : Nat} (ok : q.Ok (n + 1)) : (q.tl x).Ok n := by
 obtain ⟨h1, h2, h3⟩ := ok
 unfold Qu.tl
 by_cases h : q.c = 1
 · rw [if_pos h]; exact ⟨h1, by dsimp only; omega, by simp⟩
 · rw [if_neg h]; exact ⟨by simp [h1], by dsimp only; omega, by dsimp only; omega⟩
theorem ie (q : Qu) (x : Int) (t : List Int) (ok : q.Ok (t.length + 1)) : (q.pre ++ (x :: t).map AV.int ++ q.post)[q.off]? = some (.int x) := by
 rw [← ok.pre, List.append_assoc, List.getElem?_append_right (Nat.le_refl _), Nat.sub_self]; rfl
section
variable {P : Program} {G : List (Nat × List D)} {ρ : Env} {h : H} {dst : Option Tmp} {ty : TypeId} {pos : String} {after : Array Edge} {g : Option (Nat × Bool)}
theorem iT {T E : TypeId} {x lo : Operand} {q : Qu} {n : Nat} {z : Value} {eb : Nat} (a : Int) (hx : evO ρ x = some (.val (q.v (n + 1)))) (hlo : evO ρ lo = some (.int 1)) (hT : P.underlying T = some (.slice E)) (hE : El P E z 1 eb) (ok : q.Ok (n + 1)) :
 Pure P G ⟨dst, .slice T x (some lo) none none, ty, pos, after, g⟩ ρ h (.val ((q.tl a).v n)) :=
 Ae fun w I _ ac k => by
  have e1 := AL (k.ev x) (AA hx)
  have e2 := AL (k.ev lo) (AA hlo)
  obtain ⟨i, hi, _, hsz, _⟩ := hE.get
  refine ⟨_, rfl, fun w' => ?_⟩
  have hlo := ok.lo
  unfold Qu.tl
  by_cases hc : q.c = 1
  · obtain rfl : n = 0 := by omega
    rw [if_pos hc]
    simp [execOp, e1, e2, hc, Instr.sliceAt, run_underlying hT, Instr.slice, Instr.sliceBounds, Instr.sliceBound, asIntOf, sizeOf, typeInfo, hi, hsz]
  · rw [if_neg hc]
    have h1 : ¬ ((q.c : Int) - 1 = 0) := by omega
    have h2 : (1 : Int) ≤ n + 1 := by omega
    have h3 : ((n : Int) + 1) ≤ q.c := by omega
    simp [execOp, e1, e2, hc, Instr.sliceAt, run_underlying hT, Instr.slice, Instr.sliceBounds, Instr.sliceBound, asIntOf, sizeOf, typeInfo, hi, hsz, Addr.add_lit]
    intro hh; omega
theorem iP {T E : TypeId} {x y : Operand} {q : Qu} {n : Nat} {z : Value} {eb : Nat} (hx : evO ρ x = some (.val (q.v n))) (hy : evO ρ y = some (.int 0)) (hT : P.underlying T = some (.slice E)) (hE : El P E z 1 eb) (h1 : 0 < n) :
 Pure P G ⟨dst, .indexAddr T x y, ty, pos, after, g⟩ ρ h (.val (.pointer (some ⟨q.g, q.off, none⟩))) :=
 Ae fun w I _ ac k => by
  have e1 := AL (k.ev x) (AA hx)
  have e2 := AL (k.ev y) (AA hy)
  obtain ⟨i, hi, _, hsz, _⟩ := hE.get
  refine ⟨_, rfl, fun w' => ?_⟩
  have h2 : (0 : Int) < n := by omega
  simp [execOp, e1, e2, Instr.indexAt, run_underlying hT, asIntOf, h2, h1, sizeOf, typeInfo, hi, hsz, Addr.add_lit]
end
section
variable {k : Kx} {Q : Exit → Env → H → Prop} {ρ : Env} {h h' : H} {ops : Array Oper} {l : List Oper} {d : Nat} {ty : TypeId} {pos : String} {after : Array Edge}
theorem ia {x : Code} {q : Sl} {xs : List Int} {E : TypeId} {h1 h2 : H} (hn : 0 < xs.length) (hj : ∀ q' : Qu, q'.Ok xs.length → q.v = q'.v xs.length → J k x Q ρ (h1 ++ quE E q' xs :: h2)) : J k x Q ρ (h1 ++ AH q.v E 1 Sp.Aa xs :: h2) := by
 intro I a w k1 k2 k3
 obtain ⟨g, cap, cur, rfl, hg, hnc, hcm, hcs, hrel⟩ := Ent.row_form (k1.ent (AH q.v E 1 Sp.Aa xs) (by simp)) hn
 rw [Nat.mul_one] at hcs hrel
 have hmap : ((xs.map Sp.Aa).flatten).map D.av = xs.map AV.int := by
  clear hn hnc hrel k1 hj
  induction xs with
  | nil => rfl
  | cons x xs ih => simp only [List.map_cons, List.flatten_cons, List.map_append, ih]; rfl
 rw [hmap] at hrel
 let q' : Qu := ⟨g, 0, cap, [], (cur.toList.drop xs.length).map AV.val⟩
 have hok : q'.Ok xs.length := ⟨rfl, hnc, by
  show cap ≤ xs.length + ((cur.toList.drop xs.length).map AV.val).length
  have ecl : cur.toList.length = cap := hcs
  rw [List.length_map, List.length_drop, ecl]; omega⟩
 have he : Ent.rel w I (quE E q' xs) := by
  refine ⟨cur, hg, ?_⟩
  have := AV.rels_append hrel (Fx w I (cur.toList.drop xs.length))
  rw [List.take_append_drop] at this
  exact this
 exact hj q' hok rfl I a w (k1.reent (e := AH (Sl.v ⟨some ⟨g, 0, none⟩, xs.length, cap⟩) E 1 Sp.Aa xs) (e' := quE E q' xs) rfl he) k2 k3
theorem iF {T E : TypeId} {x y : Operand} {z : Value} {eb eb' : Nat} {q : Qu} {n : Nat} {xs : List Int} {kk : Int} {H' : Qu → H} (hx : evO ρ x = some (.val (q.v n))) (hy : evO ρ y = some (.d (.l 1 eb' [[.i .i64 kk]]))) (hT : k.P.underlying T = some (.slice E)) (he : El k.P E z 1 eb) (hz : z.cells.size = 1) (hn : n = xs.length)
 (ok : q.Ok n) (hd : Nat.blt d k.n = true) (hb : (n + 1) * eb ≤ 140737488355328) (hm : n + 1 ≤ 140737488355328)
 (hu : ∀ q', Upd (quE E q xs) (quE E q' (xs ++ [kk])) h (H' q')) (hj : All fun q' : Qu => Imp (q'.Ok (n + 1)) (JL k ops l Q ((d, .val (q'.v (n + 1))) :: ρ) (H' q'))) :
 JL k ops (⟨some d, .call { callee := .builtin .append, args := #[x, y], argTypes := #[T, T] }, ty, pos, after, none⟩ :: l) Q ρ h := by
 subst hn
 obtain ⟨i, hi, hz0, hz1, hz2⟩ := he.get
 refine D3 rfl (fun t ht => by cases ht; exact blt hd) fun I a w k1 k2 => ?_
 have e1 : a.eval x = q.v xs.length := AL (k2.ev x) (AA hx)
 have e2 := BW (k2.ev y) (AA hy)
 have hmem : quE E q xs ∈ h := by obtain ⟨h1, h2, e, _⟩ := (hu q).split; rw [e]; simp
 obtain ⟨cs, hc1, hc2⟩ := k1.ent _ hmem
 have hcl : cs.toList.length = q.off + xs.length + q.post.length := by
  rw [(AV.rels_length hc2).symm, List.length_append, List.length_append, List.length_map, ok.pre]
 have hpl : (q.pre ++ xs.map AV.int).length = q.off + xs.length := by rw [List.length_append, List.length_map, ok.pre]
 rcases Rel.cells_of (by decide) e2 with ⟨e3, e4⟩ | ⟨ad, cap, us, e3, hl, hc, h1c, hrel⟩
 · cases e4
 obtain ⟨u, rfl⟩ : ∃ u, us = [u] := List.length_eq_one_iff.1 hl
 obtain rfl : u = .int .i64 kk := hrel.1
 have hlo := ok.lo
 have hhi := ok.hi
 by_cases hroom : xs.length + 1 ≤ q.c
 · obtain ⟨p, ps, hps⟩ : ∃ p ps, q.post = p :: ps := by
    cases hq : q.post with
    | nil => rw [hq] at hhi; simp at hhi; omega
    | cons p ps => exact ⟨p, ps, rfl⟩
   let q' : Qu := ⟨q.g, q.off, q.c, q.pre, ps⟩
   have hq' : q'.Ok (xs.length + 1) := ⟨ok.pre, hroom, by rw [hps, List.length_cons] at hhi; show q.c ≤ xs.length + 1 + ps.length; omega⟩
   obtain ⟨h1, h2, eh, eHz9⟩ := (hu q').split
   have hj' := (hj.get q').get hq'
   rw [eHz9] at hj'
   rw [eh] at k1
   have hst := run_storeCells_at k.P q.g (q.off + xs.length) E [.int .i64 kk] 0 cs w hc1 (by rw [hps, List.length_cons] at hcl; simp only [Array.length_toList] at hcl; simp only [List.length_singleton]; omega) h1c
   simp only [Nat.add_zero, List.length_singleton] at hst
   have hkeep := fun (y : Nat) (hy : y ≠ q.g) => setRow_other w q.g y (cs.toList.take (q.off + xs.length) ++ [Value.int .i64 kk] ++ cs.toList.drop (q.off + xs.length + 1)).toArray hy
   have hb : blks (h1 ++ quE E q xs :: h2) = blks h1 ++ q.g :: blks h2 := by simp [blks, Ent.blk]
   have hI : ∀ z, I z → z ≠ q.g := fun z hz e => by subst e; exact (k1.imm _ hz).2 (by rw [hb]; simp)
   have hre : Ent.rel (w.setRow q.g (cs.toList.take (q.off + xs.length) ++ [Value.int .i64 kk] ++ cs.toList.drop (q.off + xs.length + 1)).toArray) I (quE E q' (xs ++ [kk])) := by
    refine ⟨_, setRow_heap w q.g cs _ E (0, 0) hc1, ?_⟩
    have m : ∀ {ys : List AV} {us : List Value}, AV.rels w I ys us → AV.rels (w.setRow q.g (cs.toList.take (q.off + xs.length) ++ [Value.int .i64 kk] ++ cs.toList.drop (q.off + xs.length + 1)).toArray) I ys us := fun h => AV.rels_mono (fun y hy => hkeep y (hI y hy)) (fun _ h => h) h
    have t1 := DI (q.off + xs.length) hc2
    have t2 := Fs (q.off + xs.length + 1) hc2
    rw [List.take_append_of_le_length (by omega), List.take_of_length_le (by omega)] at t1
    rw [hps, show q.off + xs.length + 1 = (q.pre ++ xs.map AV.int).length + 1 by rw [hpl], List.drop_append, List.drop_of_length_le (by omega), List.nil_append, show (q.pre ++ xs.map AV.int).length + 1 - (q.pre ++ xs.map AV.int).length = 1 by omega, List.drop_succ_cons, List.drop_zero, hpl] at t2
    have e : q'.pre ++ (xs ++ [kk]).map AV.int ++ q'.post = (q.pre ++ xs.map AV.int) ++ [AV.int kk] ++ ps := by simp [q']
    rw [e]
    exact AV.rels_append (AV.rels_append (m t1) ⟨rfl, trivial⟩) (m t2)
   obtain ⟨m1, m2⟩ := k1.write (e := quE E q xs) (e' := quE E q' (xs ++ [kk])) (b := q.g) (w' := w.setRow q.g _) rfl rfl rfl rfl rfl (by simp) hkeep hre
   refine ⟨.slice (some ⟨q.g, q.off, none⟩) (xs.length + 1) q.c, _, I, .val (q'.v (xs.length + 1)), _, ?_, m1, k2.mono m2 (fun _ h => h), rfl, hj'⟩
   have hf : (Builtin.firstCells 1 1 (.slice (some ad) 1 cap)).run k.P w = .ok [Value.int .i64 kk].toArray w := run_firstCells_some (P := k.P) w 1 1 ad 1 cap [.int .i64 kk] rfl hc
   have e3' : a.eval y = .slice (some ad) 1 cap := e3
   simp [execOp, resolve, invoke, builtin, e1, e3', Builtin.append_, run_underlying hT, sizeOf, typeInfo, hi, Builtin.lenOf, hroom, hz1, hf, Addr.add_lit, hst]
 · have holds : ∀ j u, (xs.map (Value.int .i64))[j]? = some u → w.cell? ((⟨q.g, q.off, none⟩ : Addr).add j) = some u := fun j u hu => by
    rw [Addr.add_lit, cell_of_row w q.g (q.off + j) cs E (0, 0) hc1]
    have hj : j < xs.length := by
     have := (List.getElem?_eq_some_iff.1 hu).1
     simpa using this
    obtain ⟨v, h1, h2⟩ := AV.rels_get hc2 (q.off + j) (.int xs[j]) (by
     rw [List.getElem?_append_left (by omega), List.getElem?_append_right (by rw [ok.pre]; omega), ok.pre, Nat.add_sub_cancel_left, List.getElem?_map, List.getElem?_eq_getElem hj]; rfl)
    rw [List.getElem?_map, List.getElem?_eq_getElem hj] at hu
    cases hu
    obtain rfl : v = .int .i64 xs[j] := h2
    simpa using h1
   have e3' : a.eval y = .slice (some ad) 1 cap := e3
   have hr := run_append_grow (P := k.P) w T ty E i z hT hi hz0 ⟨q.g, q.off, none⟩ xs.length q.c (xs.map (Value.int .i64)) (by rw [hz1]; simp) holds ad 1 cap [.int .i64 kk] (by rw [hz1]; rfl) hc (by omega) (by omega) (growslice_fits (by omega) (by rw [hz2]; exact hb))
   generalize hzc : Builtin.zeroCells z.cells (grownCap w (xs.length + 1) q.c E - (xs.length + 1)) = zc at hr
   have hge := grownCap_ge w (xs.length + 1) q.c E
   have hzs : zc.size = grownCap w (xs.length + 1) q.c E - (xs.length + 1) := by rw [← hzc, size_zeroCells, hz, Nat.mul_one]
   generalize grownCap w (xs.length + 1) q.c E = cpz9 at hr hge hzs
   obtain ⟨O, hO⟩ : ∃ O, O = Obj.cells ((xs.map (Value.int .i64)).toArray ++ [Value.int .i64 kk].toArray ++ zc) E := ⟨_, rfl⟩
   rw [← hO] at hr
   let q' : Qu := ⟨w.heap.size, 0, cpz9, [], zc.toList.map AV.val⟩
   have hq' : q'.Ok (xs.length + 1) := ⟨rfl, hge, by
    have ezc : zc.toList.length = cpz9 - (xs.length + 1) := hzs
    show cpz9 ≤ xs.length + 1 + (zc.toList.map AV.val).length
    rw [List.length_map, ezc]; omega⟩
   obtain ⟨h1, h2, eh, eHz9⟩ := (hu q').split
   have hj' := (hj.get q').get hq'
   rw [eHz9] at hj'
   rw [eh] at k1
   have hdr : C1 I (h1 ++ quE E q xs :: h2) w w.drew := ⟨rfl, rfl, rfl, Nat.le_refl _, fun _ _ => rfl⟩
   have kd := k1.same hdr
   have sd := k2.same k1 hdr
   have hmapv : ∀ l : List Int, l.map AV.int = (l.map (Value.int .i64)).map AV.val := fun l => by rw [List.map_map]; rfl
   have hre : Ent.rel (w.drew.alloc O) I (quE E q' (xs ++ [kk])) := by
    rw [hO]
    refine ⟨_, heap_alloc_new w.drew _, ?_⟩
    have e : q'.pre ++ (xs ++ [kk]).map AV.int ++ q'.post = ((xs.map (Value.int .i64)) ++ [Value.int .i64 kk] ++ zc.toList).map AV.val := by simp [q', hmapv]
    rw [e]
    have := Fx (w.drew.alloc (Obj.cells ((xs.map (Value.int .i64)).toArray ++ [Value.int .i64 kk].toArray ++ zc) E)) I ((xs.map (Value.int .i64)) ++ [Value.int .i64 kk] ++ zc.toList)
    simpa using this
   have kf := kd.fresh O (quE E q' (xs ++ [kk])) rfl hre
   have sf := sd.fresh kd O
   have hp : (quE E q' (xs ++ [kk]) :: (h1 ++ quE E q xs :: h2)).Perm (quE E q xs :: (h1 ++ quE E q' (xs ++ [kk]) :: h2)) := by
    refine (List.Perm.cons _ List.perm_middle).trans ((List.Perm.swap _ _ _).trans (List.Perm.cons _ List.perm_middle.symm))
   obtain ⟨I', m1, m2⟩ := VS.trans (VS.perm (ρ := ρ) hp) (VS.drop (List.sublist_cons_self _ _)) _ _ _ _ _ kf sf
   exact ⟨_, _, I', .val (q'.v (xs.length + 1)), _, by simp [execOp, resolve, invoke, builtin, e1, e3', hr]; exact ⟨⟨rfl, rfl⟩, rfl⟩, m1, m2, rfl, hj'⟩
end
section
variable {P : Program} {G : List (Nat × List D)} {ρ : Env} {h : H} {dst : Option Tmp} {ty : TypeId} {pos : String} {after : Array Edge} {g : Option (Nat × Bool)}
theorem fa {α β : Type} [DecidableEq α] {kd : TypeDesc} {kv : α → Value} {vv : β → Value} (K : K9 kd kv) {T KT ET : TypeId} {x y : Operand} {b : Nat} {ps : List (α × β)} {a : α} {z : Value} {sz eb : Nat}
 (hx : evO ρ x = some (.val (.map (some b)))) (hy : evO ρ y = some (.val (kv a))) (hT : P.underlying T = some (.map KT ET)) (hK : P.underlying KT = some kd) (hE : El P ET z sz eb) (hm : Ent.raw b (A1 (Ac kv vv ps)) ∈ h) (hg : getM ps a = none) :
 Pure P G ⟨dst, .lookup T x y true, ty, pos, after, g⟩ ρ h (.tup [.val z, .bool false]) := by
 have := ZH (G := G) (dst := dst) (ty := ty) (pos := pos) (after := after) (g := g) K hx hy hT hK hE hm
 rw [hg] at this; exact this
theorem fZ {α β : Type} [DecidableEq α] {kd : TypeDesc} {kv : α → Value} {vv : β → Value} (K : K9 kd kv) {T KT ET : TypeId} {x y : Operand} {b : Nat} {ps : List (α × β)} {a : α} {c : β} {z : Value} {sz eb : Nat}
 (hx : evO ρ x = some (.val (.map (some b)))) (hy : evO ρ y = some (.val (kv a))) (hT : P.underlying T = some (.map KT ET)) (hK : P.underlying KT = some kd) (hE : El P ET z sz eb) (hm : Ent.raw b (A1 (Ac kv vv ps)) ∈ h) (hg : getM ps a = some c) :
 Pure P G ⟨dst, .lookup T x y true, ty, pos, after, g⟩ ρ h (.tup [.val (vv c), .bool true]) := by
 have := ZH (G := G) (dst := dst) (ty := ty) (pos := pos) (after := after) (g := g) K hx hy hT hK hE hm
 rw [hg] at this; exact this
end
end Go.Av
namespace Go.Proofs.YtnlfhnbcdfdhgaaGreatDoor
open Go Go.Av Go.Sp
theorem gU : Cal Tryz.prog 88 := Cal.of Tryz.func88 (by kernel_rfl) (by kernel_rfl)
abbrev fS (l : List Nat) : List Int := l.map fun k : Nat => (k : Int)
theorem qa {p q : Prop} (hp : p) (h : p → q := by
 apply cmp; (focus (first
  | ((with_reducible apply (FR (Value.int .i64) (Value.int .i64))); (focus rfl))
  | ((with_reducible apply jp); (focus ((with_reducible apply (fa (vv := Value.int .i64) (AS .i64))); (iterate 4 focus rfl); (focus (with_reducible exact ElC.h)); (focus exact Ab); (focus assumption))); (focus rfl))
  | ((with_reducible apply jp); (focus ((with_reducible apply (fZ (vv := Value.int .i64) (AS .i64))); (iterate 4 focus rfl); (focus (with_reducible exact ElC.h)); (focus exact Ab); (focus assumption))); (focus rfl))
  ))
 exact fun h => h) : q := h hp
theorem way (g : Gn) (hok : g.ok) (fr : List Nat) (ins wnt : Nat → Bool) (fi fw : FuncId) (ci cwz9 : Array Value) (eaz9 eb ec ed : Ent) (hci : Cal Tryz.prog fi) (hcw : Cal Tryz.prog fw)
 (hai : ∀ k : Nat, k < g.spots.length → AC Tryz.prog GP fi ([.int k] ++ ci.toList.map AV.val) [eaz9, eb, ec, ed] fun r h => ∃ _ : Unit, r = .ret (.bool (ins k)) ∧ h = [eaz9, eb, ec, ed])
 (haw : ∀ k : Nat, k < g.spots.length → AC Tryz.prog GP fw ([.int k] ++ cwz9.toList.map AV.val) [eaz9, eb, ec, ed] fun r h => ∃ _ : Unit, r = .ret (.bool (wnt k)) ∧ h = [eaz9, eb, ec, ed])
 (hne : fr ≠ []) (hnd : fr.Nodup) (hfr : ∀ k ∈ fr, k < g.spots.length) :
 AC Tryz.prog GP 88 [gnA g, .d (AK (fS fr)), .val (.func (.func fi) #[] ci), .val (.func (.func fw) #[] cwz9)] [eaz9, eb, ec, ed] fun r h => ∃ v : {l : List Nat // fM g.nx g.spots.length fr ins wnt l ∧ l.length ≤ g.spots.length}, r = .ret (.d (AK (fS v.1))) ∧ h = [eaz9, eb, ec, ed] := by
 have hsz := hok.size
 have hnl := hok.next
 have hto := fun i => g.nx_lt hok i
 refine AJ (ts := [8]) Tryz.f88.ntmps Tryz.func88 rfl rfl rfl (by simp [Tryz.ntmps88]) fun W I => ?_
 have hfl : fr.length ≤ g.spots.length := by
  have h1 := (WI.nil g.nx g.spots.length fr ins)
  have key : ∀ (m : Nat) (xs : List Nat), xs.Nodup → (∀ x ∈ xs, x < m) → xs.length ≤ m := by
   intro m
   induction m with
   | zero =>
     intro xs _ h
     cases xs with
     | nil => exact Nat.le_refl _
     | cons x _ => have := h x List.mem_cons_self; omega
   | succ m ih =>
     intro xs hn h
     have i1 := ih (xs.erase m) (hn.erase _) fun x hx => by
      have h1 := h x (List.mem_of_mem_erase hx)
      have h2 : x ≠ m := fun e => by subst e; exact (List.Nodup.not_mem_erase hn) hx
      omega
     have := List.length_erase (a := m) (l := xs)
     split at this <;> omega
  exact key _ fr hnd hfr
 have hcl : (fS fr).length = fr.length := by simp
 refine F6 (E := 3) (sz := 1) Aa ?_
 repeat' (first
  | refine qa ?_
  | exact True.intro | refine AP ?_ | refine two ?_ ?_
  | (refine imp fun hc => ?_) <;> try exact cx hc
  | refine all fun v_ => ?_)
 obtain ⟨q, rfl⟩ : ∃ x, x = v_ := ⟨v_, rfl⟩
 obtain ⟨bm, rfl⟩ : ∃ x, x = v_ := ⟨v_, rfl⟩
 obtain ⟨bx, rfl⟩ : ∃ x, x = v_ := ⟨v_, rfl⟩
 refine AM (X := Nat) (fun i => [(2, .val (.func (.func fi) #[] ci)), (3, .val (.func (.func fw) #[] cwz9)), (4, .val (.pointer (some ⟨bx, 0, none⟩))), (9, .val (.map (some bm))), (10, .val q.v), (22, .d (AK (fS fr))), (23, .int fr.length), (24, .int i)]) (fun i => [.raw bm (A1 (Ac (Value.int .i64) (Value.int .i64) ((fr.take i).map fun k : Nat => ((k : Int), (-1 : Int))))), AH q.v 3 1 Aa (fS fr), .cells bx 161 [.d (AO g.spots), .int g.init, .d (FX g.next), .d (DF g.sets), .int g.many], eaz9, eb, ec, ed]) (fun i => i ≤ fr.length ∧ ∀ k ∈ fr.take i, wnt k = false) (fun i => fr.length - i) 0 ⟨Nat.zero_le _, fun k hk => (by cases hk)⟩ (VS.take (by exact AD) ?_) ?_
 · exact leD
 rintro i ⟨hi, hun⟩
 by_cases hil : i < fr.length
 · have hlt := hfr _ (List.getElem_mem hil)
   have hci' : (fS fr)[i]'(by omega) = (fr[i] : Int) := by simp
   have hw := haw fr[i] hlt
   rw [← hci'] at hw
   have hno : getM ((fr.take i).map fun k : Nat => ((k : Int), (-1 : Int))) ((fS fr)[i]'(by omega)) = none := by
    rw [hci', getM_none]
    intro p hp e
    obtain ⟨k, hk, rfl⟩ := List.mem_map.1 hp
    obtain ⟨j, hj, rfl⟩ := List.getElem_of_mem hk
    rw [List.getElem_take] at e
    rw [List.length_take] at hj
    have := List.pairwise_iff_getElem.1 hnd j i (by omega) hil (by omega)
    exact this (by dsimp only at e; omega)
   have hps : (fr.take (i + 1)).map (fun k : Nat => ((k : Int), (-1 : Int))) = ((fr.take i).map fun k : Nat => ((k : Int), (-1 : Int))) ++ [((fS fr)[i]'(by omega), (-1 : Int))] := by
    rw [List.take_succ_eq_append_getElem hil, List.map_append, hci']; rfl
   cases hwk : wnt fr[i] with
   | true =>
     rw [hwk] at hw
     repeat' (first
      | ((with_reducible apply (ZO (AS .i64) (vv := Value.int .i64) (c := -1))); (iterate 3 focus rfl); (focus exact fun _ _ _ h => h); (focus rfl); (focus rfl); (focus exact CI); (focus assumption))
      | ((with_reducible apply Ev); (focus rfl); (focus rfl); (focus exact hcw); (focus exact hw); (focus exact AW); (focus rfl); (focus exact BO))
      | exact True.intro | refine AP ?_ | refine two ?_ ?_
      | (refine imp fun hc => ?_) <;> try exact cx hc
      | refine all fun v_ => ?_)
     refine AN (VS.drop (h' := [eaz9, eb, ec, ed]) (by exact HX)) ?_
     ((with_reducible apply rq1); rfl; rfl)
     refine ⟨⟨[fr[i]], fM.one (List.getElem_mem hil) hlt hwk, by rw [List.length_singleton]; omega⟩, ?_, rfl⟩
     rw [hci']; rfl
   | false =>
     rw [hwk] at hw
     repeat' (first
      | ((with_reducible apply (ZO (AS .i64) (vv := Value.int .i64) (c := -1))); (iterate 3 focus rfl); (focus exact fun _ _ _ h => h); (focus rfl); (focus rfl); (focus exact CI); (focus assumption))
      | ((with_reducible apply Ev); (focus rfl); (focus rfl); (focus exact hcw); (focus exact hw); (focus exact AW); (focus rfl); (focus exact BO))
      | exact True.intro | refine AP ?_ | refine two ?_ ?_
      | (refine imp fun hc => ?_) <;> try exact cx hc
      | refine all fun v_ => ?_)
     refine ⟨i + 1, ⟨by omega, fun k hk => ?_⟩, by omega, VS.take (by rw [hps]; exact AD) ?_⟩
     · rw [List.take_succ_eq_append_getElem hil] at hk
       rcases List.mem_append.1 hk with h | h
       · exact hun k h
       · rw [List.mem_singleton.1 h]; exact hwk
     · exact leD
 obtain rfl : i = fr.length := by omega
 rw [List.take_length] at hun ⊢
 have hW0 : WS g.nx g.spots.length fr ins wnt (fr.map fun k : Nat => ((k : Int), (-1 : Int))) (fS fr) none := WS.start hnd hfr hun
 have hfl0 : 0 < (fS fr).length := by rw [hcl]; exact List.length_pos_iff.2 hne
 refine ia (h1 := [_]) hfl0 fun qu hqo hqv => ?_
 rw [hqv]
 rw [hcl] at hqo ⊢
 repeat' (first
  | exact True.intro | refine AP ?_ | refine two ?_ ?_
  | (refine imp fun hc => ?_) <;> try exact cx hc
  | refine all fun v_ => ?_)
 refine AM (X := List (Int × Int) × List Int × Qu) (fun y => [(2, .val (.func (.func fi) #[] ci)), (3, .val (.func (.func fw) #[] cwz9)), (4, .val (.pointer (some ⟨bx, 0, none⟩))), (9, .val (.map (some bm))), (10, .val (y.2.2.v y.2.1.length))]) (fun y => [.raw bm (A1 (Ac (Value.int .i64) (Value.int .i64) (y.1))), quE 3 y.2.2 y.2.1, .cells bx 161 [.d (AO g.spots), .int g.init, .d (FX g.next), .d (DF g.sets), .int g.many], eaz9, eb, ec, ed]) (fun y => WS g.nx g.spots.length fr ins wnt y.1 y.2.1 none ∧ y.2.2.Ok y.2.1.length ∧ y.2.1.length ≤ y.1.length) (fun y => 2 * (g.spots.length - y.1.length) + y.2.1.length) (_, fS fr, qu) ⟨hW0, by rw [hcl]; exact hqo, by rw [hcl, List.length_map]; exact Nat.le_refl _⟩ (VS.take (by exact AD) ?_) ?_
 · rw [hcl]; exact leD
 rintro ⟨ps, td, qu⟩ ⟨hW, hqo, htd⟩
 dsimp only at hW hqo htd ⊢
 have hpl := hW.wi.len
 cases td with
 | nil =>
   dsimp only [List.length_nil] at hqo htd ⊢
   repeat' (first
    | exact True.intro | refine AP ?_ | refine two ?_ ?_
    | (refine imp fun hc => ?_) <;> try exact cx hc
    | refine all fun v_ => ?_)
   refine AN (VS.trans (VS.drop (h' := [eaz9, eb, ec, ed]) (by exact HX)) (EZ (t := 8) 1 8 rfl)) ?_
   ((with_reducible apply rq1); rfl; rfl)
   exact ⟨⟨[], .inr ⟨rfl, hW.noway⟩, Nat.zero_le _⟩, rfl, rfl⟩
 | cons y td =>
   obtain ⟨i, rfl, hik⟩ := hW.todo y List.mem_cons_self
   obtain ⟨i0, hi0, ei⟩ := fe.1 hik
   obtain ⟨i', ei', hin, _⟩ := hW.wi.key i0 hi0
   obtain rfl : i = i' := by omega
   have hnx := g.nx_get i (by omega)
   dsimp only [List.length_cons] at hqo htd ⊢
   have hh := ie qu (i : Int) td hqo
   have hq1 : (qu.tl (i : Int)).Ok td.length := hqo.tl
   obtain ⟨M, hM⟩ : ∃ M, M = 2 * (g.spots.length - ps.length) + td.length := ⟨_, rfl⟩
   have hW1 := hW.pop
   repeat' (first
    | ((with_reducible apply jp); (focus ((with_reducible apply iP); (iterate 3 focus rfl); (focus (with_reducible exact ElC.h)); (focus omega))); (focus rfl))
    | ((with_reducible apply jp); (focus ((with_reducible apply (iT (i : Int))); (iterate 3 focus rfl); (focus (with_reducible exact ElC.h)); (focus assumption))); (focus rfl))
    | exact True.intro | refine AP ?_ | refine two ?_ ?_
    | (refine imp fun hc => ?_) <;> try exact cx hc
    | refine all fun v_ => ?_)
   rw [← iq 3 qu (i : Int) td hqo]
   generalize qu.tl (i : Int) = qu1 at hq1 ⊢
   refine AM (X := List (Int × Int) × List Int × Qu × Nat) (fun y => [(2, .val (.func (.func fi) #[] ci)), (3, .val (.func (.func fw) #[] cwz9)), (4, .val (.pointer (some ⟨bx, 0, none⟩))), (9, .val (.map (some bm))), (10, .val (y.2.2.1.v y.2.1.length)), (13, .int i), (49, .d (DF g.next[i])), (50, .int g.next[i].length), (51, .int y.2.2.2)]) (fun y => [.raw bm (A1 (Ac (Value.int .i64) (Value.int .i64) (y.1))), quE 3 y.2.2.1 y.2.1, .cells bx 161 [.d (AO g.spots), .int g.init, .d (FX g.next), .d (DF g.sets), .int g.many], eaz9, eb, ec, ed]) (fun y => WS g.nx g.spots.length fr ins wnt y.1 y.2.1 (some (i, y.2.2.2)) ∧ y.2.2.1.Ok y.2.1.length ∧ y.2.1.length ≤ y.1.length ∧ y.2.2.2 ≤ g.next[i].length ∧ 2 * (g.spots.length - y.1.length) + y.2.1.length ≤ M) (fun y => g.next[i].length - y.2.2.2) (ps, td, qu1, 0) ⟨hW1, hq1, by dsimp only; omega, Nat.zero_le _, by dsimp only; omega⟩ (VS.take (by exact AD) ?_) ?_
   · exact leD
   rintro ⟨ps1, td1, qu2, m⟩ ⟨hW2, hq2, htd2, hm, hM2⟩
   dsimp only at hW2 hq2 htd2 hm hM2 ⊢
   have hpl2 := hW2.wi.len
   refine DB (t := 49) rfl fun hlj => ?_
   by_cases hml : m < g.next[i].length
   · have hm' : m < (g.nx i).length := by rw [hnx]; exact hml
     have hke : (g.nx i)[m] = g.next[i][m] := by simp only [hnx]
     have hkn := g.nx_lt hok i _ (List.getElem_mem hm')
     have hadd := fun hno hi hw => hW2.meet (fun i => g.nx_lt hok i) hm' hno hi hw
     have hskip := fun ho => hW2.skip hm' ho
     rw [hke] at hkn hadd hskip
     have hi1 := hai _ hkn
     have hw1 := haw _ hkn
     cases hg : getM ps1 (g.next[i][m] : Int) with
     | some c =>
       repeat' (first
        | refine qa ?_
        | exact True.intro | refine AP ?_ | refine two ?_ ?_
        | (refine imp fun hc => ?_) <;> try exact cx hc
        | refine all fun v_ => ?_)
       refine ⟨(ps1, td1, qu2, m + 1), ⟨hskip (.inl (by unfold isKey; rw [hg]; exact fun h => nomatch h)), hq2, htd2, hml, hM2⟩, by dsimp only; omega, VS.take (by exact AD) ?_⟩
       exact leD
     | none =>
       cases hin2 : ins g.next[i][m] with
       | false =>
         rw [hin2] at hi1
         repeat' (first
          | refine qa ?_
          | ((with_reducible apply Ev); (focus rfl); (focus rfl); (focus exact hci); (focus exact hi1); (focus exact AW); (focus rfl); (focus exact BO))
          | exact True.intro | refine AP ?_ | refine two ?_ ?_
          | (refine imp fun hc => ?_) <;> try exact cx hc
          | refine all fun v_ => ?_)
         refine ⟨(ps1, td1, qu2, m + 1), ⟨hskip (.inr hin2), hq2, htd2, hml, hM2⟩, by dsimp only; omega, VS.take (by exact AD) ?_⟩
         exact leD
       | true =>
         rw [hin2] at hi1
         cases hwn : wnt g.next[i][m] with
         | false =>
           rw [hwn] at hw1
           repeat' (first
            | refine qa ?_
            | ((with_reducible apply Ev); (focus rfl); (focus rfl); (focus exact hci); (focus exact hi1); (focus exact AW); (focus rfl); (focus exact BO))
            | ((with_reducible apply Ev); (focus rfl); (focus rfl); (focus exact hcw); (focus exact hw1); (focus exact AW); (focus rfl); (focus exact BO))
            | ((with_reducible apply (ZO (AS .i64) (vv := Value.int .i64) (c := (i : Int)))); (iterate 3 focus rfl); (focus exact fun _ _ _ h => h); (focus rfl); (focus rfl); (focus exact CI); (focus assumption))
            | ((with_reducible apply iF); (iterate 3 focus rfl); (focus (with_reducible exact ElC.h)); (focus rfl); (focus rfl); (focus assumption); (focus rfl); (focus exact Af); (focus exact Af); (focus exact BS); (refine all fun qk => ?_); (refine imp fun hk => ?_))
            | exact True.intro | refine AP ?_ | refine two ?_ ?_
            | (refine imp fun hc => ?_) <;> try exact cx hc
            | refine all fun v_ => ?_)
           refine ⟨(ps1 ++ [((g.next[i][m] : Int), (i : Int))], td1 ++ [(g.next[i][m] : Int)], qk, m + 1), ⟨hadd hg hin2 hwn, by dsimp only; rw [List.length_append, List.length_singleton]; exact hk, by dsimp only; rw [List.length_append, List.length_append, List.length_singleton, List.length_singleton]; omega, hml, by have := (hadd hg hin2 hwn).wi.len; dsimp only; rw [List.length_append, List.length_singleton] at this; rw [List.length_append, List.length_append, List.length_singleton, List.length_singleton]; omega⟩, by dsimp only; omega, VS.take (by dsimp only; exact AD) ?_⟩
           simp only [List.length_append, List.length_singleton]
           exact leD
         | true =>
           rw [hwn] at hw1
           repeat' (first
            | refine qa ?_
            | ((with_reducible apply Ev); (focus rfl); (focus rfl); (focus exact hci); (focus exact hi1); (focus exact AW); (focus rfl); (focus exact BO))
            | ((with_reducible apply Ev); (focus rfl); (focus rfl); (focus exact hcw); (focus exact hw1); (focus exact AW); (focus rfl); (focus exact BO))
            | ((with_reducible apply (ZO (AS .i64) (vv := Value.int .i64) (c := (i : Int)))); (iterate 3 focus rfl); (focus exact fun _ _ _ h => h); (focus rfl); (focus rfl); (focus exact CI); (focus assumption))
            | ((with_reducible apply iF); (iterate 3 focus rfl); (focus (with_reducible exact ElC.h)); (focus rfl); (focus rfl); (focus assumption); (focus rfl); (focus exact Af); (focus exact Af); (focus exact BS); (refine all fun qk => ?_); (refine imp fun hk => ?_))
            | exact True.intro | refine AP ?_ | refine two ?_ ?_
            | (refine imp fun hc => ?_) <;> try exact cx hc
            | refine all fun v_ => ?_)
           have hw2 : WI g.nx g.spots.length fr ins (ps1 ++ [((g.next[i][m] : Int), (i : Int))]) := by
            obtain ⟨j, hj, e1⟩ := fe.1 (hW2.part i m rfl).1
            exact hW2.wi.add hg hkn (.inr ⟨j, hj, i, e1, rfl, by rw [← hke]; exact List.getElem_mem hm', hin2⟩)
           have hb0 : gq g.nx g.spots.length fr ins wnt (ps1 ++ [((g.next[i][m] : Int), (i : Int))]) (ps1.length + 1) [] := gq.start hw2 (by simp) (k := g.next[i][m]) (by simp) hwn
           have hk0 : kAt (ps1 ++ [((g.next[i][m] : Int), (i : Int))]) (ps1.length + 1) = g.next[i][m] := by rw [fq _ _ (by simp)]; simp
           have hl0 : (ps1 ++ [((g.next[i][m] : Int), (i : Int))]).length = ps1.length + 1 := by simp
           have hl2 := hw2.len
           generalize ps1 ++ [((g.next[i][m] : Int), (i : Int))] = ps2 at hw2 hb0 hl0 hl2 hk0 ⊢
           refine AM (X := Nat × List Nat) (fun y => [(9, .val (.map (some bm))), (15, .int (kAt ps2 y.1)), (18, .d (AK (fS y.2)))]) (fun y => [.raw bm (A1 (Ac (Value.int .i64) (Value.int .i64) (ps2))), eaz9, eb, ec, ed]) (fun y => gq g.nx g.spots.length fr ins wnt ps2 y.1 y.2 ∧ y.2.length + y.1 ≤ ps2.length) (fun y => y.1) (ps1.length + 1, []) ⟨hb0, by dsimp only [List.length_nil]; omega⟩ (VS.trans (EZ (t := 18) 1 8 rfl) (VS.take (by exact AD) ?_)) ?_
           · rw [hk0]; exact leD
           rintro ⟨p, l⟩ ⟨hb, hpl4⟩
           dsimp only at hb hpl4 ⊢
           cases p with
           | zero =>
             rw [iU]
             repeat' (first
              | exact True.intro | refine AP ?_ | refine two ?_ ?_
              | (refine imp fun hc => ?_) <;> try exact cx hc
              | refine all fun v_ => ?_)
             refine AN (VS.drop (h' := [eaz9, eb, ec, ed]) (by exact HX)) ?_
             ((with_reducible apply rq1); rfl; rfl)
             exact ⟨⟨l, .inl (hb.fin rfl), by omega⟩, rfl, rfl⟩
           | succ j =>
             obtain ⟨k, p', hk, hgm, hp', hb'⟩ := hb.step hw2
             rw [hk]
             have hcll : (fS l).length = l.length := by simp
             refine L3 (GW (X := Unit) (fun _ => [(9, .val (.map (some bm))), (15, .int (k : Int)), (18, .d (AK (fS l)))]) (fun _ => [.raw bm (A1 (Ac (Value.int .i64) (Value.int .i64) (ps2))), eaz9, eb, ec, ed]) ?_ fun _ => ?_)
             · repeat' (first
                | exact True.intro | refine AP ?_ | refine two ?_ ?_
                | (refine imp fun hc => ?_) <;> try exact cx hc
                | refine all fun v_ => ?_)
               exact ⟨(), VS.take (by exact AD) (by exact leD)⟩
             refine L3 (O8 (Lr ?_))
             refine jp (r := .int (k : Int)) (Zy rfl) rfl ?_
             refine Zs rfl rfl (by (with_reducible exact ElC.h)) rfl ?_
             repeat' (first
              | ((with_reducible apply jp); (focus ((with_reducible apply (Du (vv := Value.int .i64) (AS .i64))); (iterate 4 focus rfl); (focus exact Ab); (focus assumption))); (focus rfl))
              | exact True.intro | refine AP ?_ | refine two ?_ ?_
              | (refine imp fun hc => ?_) <;> try exact cx hc
              | refine all fun v_ => ?_)
             refine ⟨(p', k :: l), ⟨hb', by dsimp only [List.length_cons]; omega⟩, by dsimp only; omega, VS.trans (By (t := 18) (eb := 8) rfl rfl (fun x => rfl) (by rw [List.length_append, hcll, List.length_singleton]; omega)) (VS.take (by exact AD) ?_)⟩
             exact leD
   · have hmm : m = (g.nx i).length := by rw [hnx]; omega
     rw [hmm] at hW2
     have hW3 := hW2.done
     repeat' (first
      | exact True.intro | refine AP ?_ | refine two ?_ ?_
      | (refine imp fun hc => ?_) <;> try exact cx hc
      | refine all fun v_ => ?_)
     refine ⟨(ps1, td1, qu2), ⟨hW3, hq2, htd2⟩, by dsimp only; omega, VS.take (by exact AD) ?_⟩
     exact leD
theorem gz : Cal Tryz.prog 89 := Cal.of Tryz.func89 (by kernel_rfl) (by kernel_rfl)
theorem iA : Cal Tryz.prog 90 := Cal.of Tryz.func90 (by kernel_rfl) (by kernel_rfl)
theorem fg : Cal Tryz.prog 91 := Cal.of Tryz.func91 (by kernel_rfl) (by kernel_rfl)
theorem gx : Cal Tryz.prog 92 := Cal.of Tryz.func92 (by kernel_rfl) (by kernel_rfl)
theorem iD : Cal Tryz.prog 93 := Cal.of Tryz.func93 (by kernel_rfl) (by kernel_rfl)
theorem las1 (k : Nat) (eaz9 eb ec ed : Ent) : AC Tryz.prog GP 89 [.int k] [eaz9, eb, ec, ed] fun r h => ∃ _ : Unit, r = .ret (.bool true) ∧ h = [eaz9, eb, ec, ed] := by
 refine AJ (ts := [2]) Tryz.f89.ntmps Tryz.func89 rfl rfl rfl (by simp [Tryz.ntmps89]) fun W I => ?_
 repeat' (first
  | exact True.intro | refine AG ?_ | refine two ?_ ?_ | refine AF fun c_ => ?_
  | (refine imp fun hc => ?_) <;> try exact cx1 hc
  | refine all fun v_ => ?_)
 all_goals
  refine A6 ?_
  ((with_reducible apply rq1); rfl; rfl)
  exact ⟨(), rfl, rfl⟩
theorem las2 (home k : Nat) (bhz9 : Nat) (eb ec ed : Ent) : AC Tryz.prog GP 90 [.int k, .val (.pointer (some ⟨bhz9, 0, none⟩))] [.cells bhz9 3 [.int home], eb, ec, ed] fun r h => ∃ _ : Unit, r = .ret (.bool (decide (k = home))) ∧ h = [.cells bhz9 3 [.int home], eb, ec, ed] := by
 refine AJ (ts := [3]) Tryz.f90.ntmps Tryz.func90 rfl rfl rfl (by simp [Tryz.ntmps90]) fun W I => ?_
 repeat' (first
  | exact True.intro | refine AG ?_ | refine two ?_ ?_ | refine AF fun c_ => ?_
  | (refine imp fun hc => ?_) <;> try exact cx1 hc
  | refine all fun v_ => ?_)
 all_goals
  refine A6 ?_
  ((with_reducible apply rq1); rfl; rfl)
  exact ⟨(), by simp; omega, rfl⟩
theorem las5 (home k : Nat) (bhz9 : Nat) (eb ec ed : Ent) : AC Tryz.prog GP 93 [.int k, .val (.pointer (some ⟨bhz9, 0, none⟩))] [.cells bhz9 3 [.int home], eb, ec, ed] fun r h => ∃ _ : Unit, r = .ret (.bool (decide (k = home))) ∧ h = [.cells bhz9 3 [.int home], eb, ec, ed] := by
 refine AJ (ts := [3]) Tryz.f93.ntmps Tryz.func93 rfl rfl rfl (by simp [Tryz.ntmps93]) fun W I => ?_
 repeat' (first
  | exact True.intro | refine AG ?_ | refine two ?_ ?_ | refine AF fun c_ => ?_
  | (refine imp fun hc => ?_) <;> try exact cx1 hc
  | refine all fun v_ => ?_)
 all_goals
  refine A6 ?_
  ((with_reducible apply rq1); rfl; rfl)
  exact ⟨(), by simp; omega, rfl⟩
theorem im (g : Gn) (home k : Nat) (hk : k < g.spots.length) (bhz9 bp : Nat) (ec ed : Ent) : AC Tryz.prog GP 91 [.int k, .val (.pointer (some ⟨bp, 0, none⟩)), .val (.pointer (some ⟨bhz9, 0, none⟩))] [.cells bhz9 3 [.int home], .cells bp 49 [.d (DF (EP g))], ec, ed] fun r h => ∃ _ : Unit, r = .ret (.bool (insP g home k)) ∧ h = [.cells bhz9 3 [.int home], .cells bp 49 [.d (DF (EP g))], ec, ed] := by
 have hl := JG g
 have hn := MJ (EP g) k (by omega)
 refine AJ (ts := [4]) Tryz.f91.ntmps Tryz.func91 rfl rfl rfl (by simp [Tryz.ntmps91]) fun W I => ?_
 repeat' (first
  | exact True.intro | refine AG ?_ | refine two ?_ ?_ | refine AF fun c_ => ?_
  | (refine imp fun hc => ?_) <;> try exact cx1 hc
  | refine all fun v_ => ?_)
 all_goals
  refine A6 ?_
  ((with_reducible apply rq1); rfl; rfl)
  exact ⟨(), by unfold insP; rw [hn]; simp; omega, rfl⟩
theorem las4 (g : Gn) (hok : g.ok) (bit k : Nat) (hk : k < g.spots.length) (hb : bit < 6) (bg bb : Nat) (eaz9 eb : Ent) : AC Tryz.prog GP 92 [.int k, .val (.pointer (some ⟨bg, 0, none⟩)), .val (.pointer (some ⟨bb, 0, none⟩))] [eaz9, eb, .cells bg 51 [.d (AO g.spots), .int g.init, .d (FX g.next), .d (DF g.sets), .int g.many], .cells bb 3 [.int bit]] fun r h => ∃ _ : Unit, r = .ret (.bool ((ni g.sets k).testBit bit)) ∧ h = [eaz9, eb, .cells bg 51 [.d (AO g.spots), .int g.init, .d (FX g.next), .d (DF g.sets), .int g.many], .cells bb 3 [.int bit]] := by
 have hl := hok.sets
 have hn := MJ g.sets k (by omega)
 have hs := hok.bits k (by omega)
 have hm := hok.many
 have hs' : g.sets[k] < 64 := Nat.lt_of_lt_of_le hs (by have := Nat.pow_le_pow_right (n := 2) (by decide) hm; exact this)
 have hbd := gW g.sets[k] bit
 refine AJ (ts := [4]) Tryz.f92.ntmps Tryz.func92 rfl rfl rfl (by simp [Tryz.ntmps92]) fun W I => ?_
 repeat' (first
  | exact True.intro | refine AG ?_ | refine two ?_ ?_ | refine AF fun c_ => ?_
  | (refine imp fun hc => ?_) <;> try exact cx1 hc
  | refine all fun v_ => ?_)
 all_goals
  refine A6 ?_
  ((with_reducible apply rq1); rfl; rfl)
  refine ⟨(), ?_, rfl⟩
  have e1 : (bit : Int).toNat = bit := Int.toNat_natCast bit
  have e2 : (g.sets[k] : Int) / 2 ^ bit = ((g.sets[k] / 2 ^ bit : Nat) : Int) := by simp
  have e3 : g.sets[k] / 2 ^ bit ≤ g.sets[k] := Nat.div_le_self _ _
  have e4 : (ni g.sets k).testBit bit = decide ((g.sets[k] : Int) / 2 ^ bit % 2 = 1) := by
   rw [hn]
   by_cases h : g.sets[k].testBit bit = true
   · rw [h]; exact (decide_eq_true (hbd.2 h)).symm
   · rw [Bool.not_eq_true] at h
     rw [h]; exact (decide_eq_false (fun h' => by rw [hbd.1 h'] at h; cases h)).symm
  generalize g.sets[k] / 2 ^ bit = z at e2 e3
  rw [e4, e1, and1 (by rw [e2]; omega) (by rw [e2]; omega)]
end Go.Proofs.YtnlfhnbcdfdhgaaGreatDoor
