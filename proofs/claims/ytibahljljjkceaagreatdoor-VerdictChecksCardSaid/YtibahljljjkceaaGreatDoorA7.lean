/- A bundle of this claim's own texts: E7 Br Cf M4. -/
import Derived.ProofKit
import Derived.Carry
import Derived.Lib.LaidTab
import Derived.Deep.Slices
import Derived.Below
import Derived.ChangeSame
import Derived.WideKeyArgs
import Derived.ShutString
import Derived.OpenShut
import Derived.Test.YtibahljljjkceaaGreatDoorA1
import Derived.Test.YtibahljljjkceaaGreatDoorA2
import Derived.Test.YtibahljljjkceaaGreatDoorA5
import Derived.Test.YtibahljljjkceaaGreatDoorA6
set_option linter.unusedVariables false
set_option linter.unusedSimpArgs false
set_option maxRecDepth 100000
set_option maxHeartbeats 4000000
namespace Go.Av
open Go Go.Instr
theorem AC.factU {α β : Type} {f : α → List D} {e : β → List D} {g : α → List β} {xs : List α} {P : Program} {G : List (Nat × List D)} {fn : FuncId} {args : List AV} {h : H} {Q : AE → H → Prop} {sz eb sz' eb' : Nat} (u : Nat) (hu : ∀ a, (f a)[u]? = some (.l sz' eb' ((g a).map e))) (hm : InA (.l sz eb (xs.map f)) args)
 (hac : (∀ a ∈ xs, (g a).length * eb' ≤ 140737488355328) → AC P G fn args h Q) : AC P G fn args h Q := by
 intro I W vs h1 h2 h3 h4 h5
 obtain ⟨v, hv⟩ := hm.rel h5
 refine hac (fun a ha => ?_) I W vs h1 h2 h3 h4 h5
 obtain ⟨j, hj, rfl⟩ := List.getElem_of_mem ha
 have key : ∀ rows, rows = xs.map f → Rel W I (.l sz eb rows) v → ∃ w, Rel W I (.l sz' eb' ((g xs[j]).map e)) w := fun rows hr hrel => by
  have hrow : rows[j]? = some (f xs[j]) := by rw [hr, List.getElem?_map, List.getElem?_eq_getElem hj]; rfl
  cases hrel with
  | nil => simp at hrow
  | emp => simp at hrow
  | l _ _ _ ad cap css hI hcap hm hb hsz hc hr => exact ⟨_, hr j u _ _ hrow (hu _)⟩
 obtain ⟨w, hw⟩ := key _ rfl hv
 have := (Rel.len_le hw).1
 rwa [List.length_map] at this
def Eq4 (P : Program) (T : TypeId) : Prop := P.eqGuardType P.depth T = false ∧ ∀ (s : ByteArray) (a b c : Int) w, (Op.equalIn 10000 T (.agg #[.string s, .int .i64 a, .int .i64 b, .int .i64 c]) (.agg #[.string s, .int .i64 a, .int .i64 b, .int .i64 c])).run P w = .ok true w
section
variable {P : Program} {G : List (Nat × List D)} {ρ : Env} {h : H} {dst : Option Tmp} {ty : TypeId} {pos : String} {after : Array Edge} {g : Option (Nat × Bool)}
theorem X0 {T T' : TypeId} {x y : Operand} {s : ByteArray} {a b c : Int} (hT : Eq4 P T) (hx : evO ρ x = some (.agg [.val (.string s), .int a, .int b, .int c])) (hy : evO ρ y = some (.agg [.val (.string s), .int a, .int b, .int c])) :
 Pure P G ⟨dst, .binOp .neq T x y T', ty, pos, after, g⟩ ρ h (.bool false) :=
 Am fun w I _ ac k => ⟨_, rfl, fun w' => by
  obtain ⟨vs, e1, r1⟩ := BY (k.ev x) (AF hx)
  obtain ⟨us, e2, r2⟩ := BY (k.ev y) (AF hy)
  obtain ⟨rfl⟩ : vs = [.string s, .int .i64 a, .int .i64 b, .int .i64 c] := by
   match vs, r1 with
   | [p, q, r, t], ⟨h1, h2, h3, h4, _⟩ => cases h1; cases h2; cases h3; cases h4; rfl
  obtain ⟨rfl⟩ : us = [.string s, .int .i64 a, .int .i64 b, .int .i64 c] := by
   match us, r2 with
   | [p, q, r, t], ⟨h1, h2, h3, h4, _⟩ => cases h1; cases h2; cases h3; cases h4; rfl
  simp [execOp, e1, e2, run_eqGuard_agg _ _ _ _ _ _ _ hT.1, run_neq_struct, hT.2]⟩
theorem Kp {f : FuncId} {x : Operand} {u : Value} (hx : evO ρ x = some (.val u)) : Pure P G ⟨dst, .makeFunc (.func f) #[] #[x], ty, pos, after, g⟩ ρ h (.val (.func (.func f) #[] #[u])) :=
 Am fun w I _ a hs => ⟨_, rfl, fun w' => by
  have e1 := AP (hs.ev x) (AF hx)
  simp [execOp, Instr.makeFunc, e1]⟩
end
open Go

def D6 (w : World) (I : Nat → Prop) : List D → List Value → Prop
 | [], [] => True
 | x :: xs, c :: cs => Rel w I x c ∧ D6 w I xs cs
 | _, _ => False
theorem D6.length {w : World} {I : Nat → Prop} : ∀ {xs : List D} {cs : List Value}, D6 w I xs cs → xs.length = cs.length
 | [], [], _ => rfl
 | _ :: _, _ :: _, ⟨_, h⟩ => by simp [D6.length h]
theorem D6.get {w : World} {I : Nat → Prop} : ∀ {xs : List D} {cs : List Value}, D6 w I xs cs → ∀ (u : Nat) (x : D), xs[u]? = some x → ∃ c, cs[u]? = some c ∧ Rel w I x c
 | [], [], _, _, _, h => by simp at h
 | x :: xs, c :: cs, ⟨h1, h2⟩, u, y, h => by
   cases u with
   | zero => simp at h; subst h; exact ⟨c, rfl, h1⟩
   | succ u => simpa using D6.get h2 u y (by simpa using h)
theorem D6.append {w : World} {I : Nat → Prop} : ∀ {xs ys : List D} {cs ds : List Value}, D6 w I xs cs → D6 w I ys ds → D6 w I (xs ++ ys) (cs ++ ds)
 | [], _, [], _, _, h => h
 | _ :: _, _, _ :: _, _, ⟨h1, h2⟩, h => ⟨h1, D6.append h2 h⟩
theorem D6.av {w : World} {I : Nat → Prop} : ∀ {xs : List D} {cs : List Value}, D6 w I xs cs → AV.rels w I (xs.map D.av) cs
 | [], [], _ => trivial
 | _ :: _, _ :: _, ⟨h1, h2⟩ => ⟨D.av_rel h1, D6.av h2⟩

def B0 (P : Program) : Nat → TypeId → List D → Prop
 | 0, _, _ => False
 | fuel + 1, t, xs =>
   match P.underlying t with
   | some .bool => ∃ b, xs = [.b b]
   | some (.int k) => ∃ n, xs = [.i k n] ∧ (Lit.int k n).wf = true
   | some .string => ∃ s, xs = [.s s] ∧ s.size ≤ 140737488355328
   | some (.slice e) => ∃ rows, xs = [.l (P.cellsOf e) (P.bytesOf e) rows] ∧ (∀ r ∈ rows, B0 P fuel e r) ∧ rows.length * P.bytesOf e ≤ 140737488351232
   | some (.struct fs) => ∃ parts : List (List D), xs = parts.flatten ∧ parts.length = fs.size ∧ ∀ (i : Nat) (f : Field) (p : List D), fs[i]? = some f → parts[i]? = some p → B0 P fuel f.type p
   | some (.array n e) => ∃ parts : List (List D), xs = parts.flatten ∧ parts.length = n ∧ ∀ p ∈ parts, B0 P fuel e p
   | _ => False

def OD (P : Program) : Nat → List Field → Bool
 | _, [] => true
 | off, f :: fs => f.offset == off && OD P (off + P.cellsOf f.type) fs
def F7 (P : Program) : Nat → TypeId → Bool
 | 0, _ => false
 | fuel + 1, t =>
   match P.underlying t with
   | some .bool | some (.int _) | some .string => true
   | some (.slice e) => decide (0 < P.cellsOf e) && F7 P fuel e
   | some (.struct fs) => OD P 0 fs.toList && (fs.toList.map fun f => P.cellsOf f.type).sum == P.cellsOf t && fs.toList.all fun f => F7 P fuel f.type
   | some (.array n e) => P.cellsOf t == n * P.cellsOf e && F7 P fuel e
   | _ => false

theorem FN {H : Type} {P : Program} {e : TypeId} : ∀ {ds : List (DataW H)} {d : DataW H}, d ∈ ds → ∀ x ∈ d.weights P e, x ∈ DataW.weightsAll P e ds
 | d' :: ds, d, h, x, hx => by
   simp only [DataW.weightsAll, List.mem_append]
   rcases List.mem_cons.1 h with rfl | h
   · exact .inl hx
   · exact .inr (FN h x hx)
theorem HB {H : Type} {P : Program} : ∀ {ts : List TypeId} {ds : List (DataW H)} (i : Nat) (t : TypeId) (d : DataW H), ts[i]? = some t → ds[i]? = some d → ∀ x ∈ d.weights P t, x ∈ DataW.weightsEach P ts ds
 | [], _, i, t, d, h, _, _, _ => by simp at h
 | _ :: _, [], i, t, d, _, h, _, _ => by simp at h
 | t' :: ts, d' :: ds, i, t, d, h1, h2, x, hx => by
   simp only [DataW.weightsEach, List.mem_append]
   cases i with
   | zero => simp at h1 h2; subst h1; subst h2; exact .inl hx
   | succ i => exact .inr (HB i t d (by simpa using h1) (by simpa using h2) x hx)

theorem mapM_length {α β : Type} {f : α → Option β} : ∀ {l : List α} {r : List β}, l.mapM f = some r → r.length = l.length
 | [], r, h => by simp at h; subst h; rfl
 | x :: l, r, h => by
   simp only [List.mapM_cons, Option.bind_eq_bind, Option.bind_eq_some_iff, Option.pure_def, Option.some.injEq] at h
   obtain ⟨b, _, r', hr', rfl⟩ := h
   simp [mapM_length hr']

theorem HS {w : World} {a : Addr} {n : Nat} {cs : List Value} (h : w.cells? 0 a n = some cs) : cs.length = n ∧ ∀ (u : Nat) (c : Value), cs[u]? = some c → w.cell? (a.add u) = some c := by
 unfold World.cells? at h
 simp only [Nat.zero_le, if_true] at h
 have hl := mapM_length h
 simp at hl
 refine ⟨hl, fun u c hc => ?_⟩
 have hu : u < n := by rw [← hl]; exact (List.getElem?_eq_some_iff.1 hc).1
 obtain ⟨b, hb, hf⟩ := Lib.mapM_at h u u (by simp [hu])
 rw [hc] at hb
 cases hb
 exact hf

mutual
def D.bulk : D → Nat
 | .l _ _ rows => GD rows + 1
 | .s x => x.size + 1
 | _ => 1
def Ci : List D → Nat
 | [] => 0
 | x :: xs => x.bulk + Ci xs
def GD : List (List D) → Nat
 | [] => 0
 | r :: rs => Ci r + GD rs
end
theorem JB : ∀ xs ys : List D, Ci (xs ++ ys) = Ci xs + Ci ys
 | [], ys => by simp [Ci]
 | x :: xs, ys => by rw [List.cons_append, Ci, Ci, JB xs ys]; omega
theorem F6 : ∀ rows : List (List D), Ci rows.flatten = GD rows
 | [] => by simp [Ci, GD]
 | r :: rows => by rw [List.flatten_cons, JB, GD, F6 rows]
theorem JK {β : Type} {f : β → List D} {g : β → Nat} : ∀ {l : List β}, (∀ i ∈ l, Ci (f i) ≤ g i) → GD (l.map f) ≤ (l.map g).sum
 | [], _ => by simp [GD]
 | i :: l, h => by
   have := JK (l := l) fun j hj => h j (List.mem_cons_of_mem _ hj)
   have := h i (by simp)
   simp only [List.map_cons, GD, List.sum_cons]
   omega
structure Eh {H : Type} (B : DataW H → Nat) : Prop where
 lit : ∀ l, 1 ≤ B (.lit l)
 str : ∀ l, l.length + 1 ≤ B (.lit (.string l))
 nil : 1 ≤ B .nil
 slice : ∀ es sp, (es.map B).sum + 1 ≤ B (.slice es sp)
 agg : ∀ ps, (ps.map B).sum + 1 ≤ B (.agg ps)

theorem OE {H : Type} {enc : TypeId × Value → H} {P : Program} {W : World} (B : DataW H → Nat) : ∀ (g : Nat) (fuel : Nat) (t : TypeId) (cs : List Value) (d : DataW H) (ps : List MemPlace),
 DataW.trod enc P W 0 (fun _ => true) true fuel t cs = some (d, ps) → F7 P g t = true → (∀ x ∈ d.weights P t, x ≤ reachBytes) → ∃ xs, D6 W (fun b => b < W.heap.size) xs cs ∧ B0 P g t xs ∧ (Eh B → Ci xs ≤ B d)
 | 0, _, _, _, _, _, _, h, _ => by simp [F7] at h
 | g + 1, fuel, t, cs, d, ps, h, hp, hw => by
   unfold F7 at hp
   unfold B0
   cases hu : P.underlying t with
   | none => rw [hu] at hp; simp at hp
   | some td =>
     rw [hu] at hp
     cases td with
     | bool =>
       obtain ⟨b, rfl, he⟩ := DataW.trod_bool hu h
       refine ⟨[.b b], ⟨.b b, trivial⟩, ⟨b, rfl⟩, fun hB => ?_⟩
       cases he
       simpa [Ci, D.bulk] using hB.lit _
     | int k =>
       obtain ⟨n, rfl, he, hwf⟩ := DataW.trod_int hu h
       refine ⟨[.i k n], ⟨.i k n, trivial⟩, ⟨n, rfl, hwf⟩, fun hB => ?_⟩
       cases he
       simpa [Ci, D.bulk] using hB.lit _
     | string =>
       obtain ⟨s, rfl, he, hs⟩ := DataW.trod_string hu h
       cases he
       have := hw s.data.toList.length (by unfold DataW.weights; exact List.mem_singleton.2 rfl)
       simp only [reachBytes] at this
       have e : s.size = s.data.toList.length := by rw [Array.length_toList]; rfl
       refine ⟨[.s s], ⟨.s s, trivial⟩, ⟨s, rfl, by omega⟩, fun hB => ?_⟩
       have := hB.str s.data.toList
       simp only [Ci, D.bulk]
       omega
     | slice e =>
       simp only [Bool.and_eq_true, decide_eq_true_eq] at hp
       obtain ⟨hc0, hpe⟩ := hp
       rcases Go.Deep.open_slice hu h with ⟨rfl, he⟩ | ⟨a, len, cap, m, n, Df, Pl, rfl, _, hlc, hcm, hm, hx, hel⟩
       · refine ⟨[.l (P.cellsOf e) (P.bytesOf e) []], ⟨.nil _ _, trivial⟩, ⟨[], rfl, by simp, by simp⟩, fun hB => ?_⟩
         cases he
         simpa [Ci, D.bulk, GD] using hB.nil
       · simp only [if_true] at hm
         subst hm
         have hd : d = .slice ((List.range len).map Df) ((List.range (m - len)).map fun j => Df (len + j)) := congrArg Prod.fst hx
         subst hd
         simp only [DataW.weights, hu] at hw
         have hbytes := hw _ (List.mem_cons_self ..)
         simp only [List.length_map, List.length_range, reachBytes] at hbytes
         have key : ∀ i, ∃ r : List D, i < len → ∃ cs', W.cells? 0 (a.add (i * P.cellsOf e)) (P.cellsOf e) = some cs' ∧ D6 W (fun b => b < W.heap.size) r cs' ∧ B0 P g e r ∧ (Eh B → Ci r ≤ B (Df i)) := fun i => by
          by_cases hi : i < len
          · obtain ⟨cs', hcs, htr⟩ := hel i (by omega)
            obtain ⟨r, h1, h2, h3⟩ := OE B g n e cs' (Df i) (Pl i) htr hpe fun x hx' => hw x (List.mem_cons_of_mem _ (List.mem_append.2 (.inl (FN (List.mem_map.2 ⟨i, List.mem_range.2 hi, rfl⟩) x hx'))))
            exact ⟨r, fun _ => ⟨cs', hcs, h1, h2, h3⟩⟩
          · exact ⟨[], fun h => absurd h hi⟩
         let rf : Nat → List D := fun i => Classical.choose (key i)
         have hrf : ∀ i, i < len → ∃ cs', W.cells? 0 (a.add (i * P.cellsOf e)) (P.cellsOf e) = some cs' ∧ D6 W (fun b => b < W.heap.size) (rf i) cs' ∧ B0 P g e (rf i) ∧ (Eh B → Ci (rf i) ≤ B (Df i)) := fun i => Classical.choose_spec (key i)
         have hget : ∀ (j : Nat) (r : List D), ((List.range len).map rf)[j]? = some r → j < len ∧ r = rf j := fun j r hj => by
          have hlt : j < len := by
           have := (List.getElem?_eq_some_iff.1 hj).1
           simpa using this
          rw [List.getElem?_map, List.getElem?_range hlt] at hj
          simp at hj
          exact ⟨hlt, hj.symm⟩
         have hlen : ((List.range len).map rf).length = len := by simp
         have hconf : ∀ r ∈ (List.range len).map rf, B0 P g e r := fun r hr => by
          obtain ⟨i, hi, rfl⟩ := List.mem_map.1 hr
          obtain ⟨_, _, _, h3, _⟩ := hrf i (List.mem_range.1 hi)
          exact h3
         have hsz : ∀ r ∈ (List.range len).map rf, r.length = P.cellsOf e := fun r hr => by
          obtain ⟨i, hi, rfl⟩ := List.mem_map.1 hr
          obtain ⟨cs', h1, h2, _⟩ := hrf i (List.mem_range.1 hi)
          rw [h2.length]; exact (HS h1).1
         have hlb : len * P.bytesOf e ≤ 140737488351232 := Nat.le_trans (Nat.mul_le_mul_right _ (show len ≤ len + (m - len) by omega)) hbytes
         have hbk : Eh B → Ci [.l (P.cellsOf e) (P.bytesOf e) ((List.range len).map rf)] ≤ B (.slice ((List.range len).map Df) ((List.range (m - len)).map fun j => Df (len + j))) := fun hB => by
          have h1 := JK (f := rf) (g := fun i => B (Df i)) (l := List.range len) fun i hi => by
           obtain ⟨_, _, _, _, h3⟩ := hrf i (List.mem_range.1 hi)
           exact h3 hB
          have h2 := hB.slice ((List.range len).map Df) ((List.range (m - len)).map fun j => Df (len + j))
          rw [List.map_map] at h2
          simp only [Ci, D.bulk]
          simp only [Function.comp_def] at h2
          omega
         refine ⟨[.l (P.cellsOf e) (P.bytesOf e) ((List.range len).map rf)], ⟨?_, trivial⟩, ⟨_, rfl, hconf, by rw [hlen]; exact hlb⟩, hbk⟩
         by_cases hm0 : m = 0
         · have h0 : len = 0 := by omega
           subst h0; subst hm0
           exact .emp _ _ a
         · have hcell : ∃ v, W.cell? a = some v := by
            obtain ⟨cs', hcs, _⟩ := hel 0 (by omega)
            obtain ⟨h1, h2⟩ := HS hcs
            rw [Nat.zero_mul] at h2
            have h0 : 0 < cs'.length := by omega
            exact ⟨cs'[0], by have := h2 0 _ (List.getElem?_eq_getElem h0); simpa [Addr.add] using this⟩
           obtain ⟨v, hv⟩ := hcell
           have hblk : a.block < W.heap.size := World.block_lt_of_cell? _ _ hv
           let css : Nat → Nat → Value := fun j u => (W.cell? (a.add (j * P.cellsOf e + u))).getD undef
           have hval : ∀ (j u : Nat) (r : List D) (x : D), ((List.range len).map rf)[j]? = some r → r[u]? = some x → W.cell? (a.add (j * P.cellsOf e + u)) = some (css j u) ∧ Rel W (fun b => b < W.heap.size) x (css j u) := fun j u r x hj hx => by
            obtain ⟨hlt, rfl⟩ := hget j r hj
            obtain ⟨cs', h1, h2, _⟩ := hrf j hlt
            obtain ⟨c, hc, hrel⟩ := h2.get u x hx
            have hcell := (HS h1).2 u c hc
            rw [Addr.add_add] at hcell
            simp only [css, hcell, Option.getD_some]
            exact ⟨trivial, hrel⟩
           have := Rel.l (w := W) (I := fun b => b < W.heap.size) (P.cellsOf e) (P.bytesOf e) ((List.range len).map rf) a m css hblk (by rw [hlen]; exact hlc) hcm (by rw [hlen]; omega) hsz (fun j u r x hj hx => (hval j u r x hj hx).1) (fun j u r x hj hx => (hval j u r x hj hx).2)
           rwa [hlen] at this
     | struct fs =>
       simp only [Bool.and_eq_true, List.all_eq_true, beq_iff_eq] at hp
       obtain ⟨⟨hco, hsum⟩, hpf⟩ := hp
       obtain ⟨ys, n, _, hx, hlc, hyl, hf⟩ := DataW.trod_struct hu h
       have hd : d = .agg (ys.map (·.1)) := congrArg Prod.fst hx
       subst hd
       simp only [DataW.weights, hu] at hw
       have key : ∀ i : Nat, ∃ r : List D, ∀ f : Field, fs[i]? = some f → D6 W (fun b => b < W.heap.size) r ((cs.drop f.offset).take (P.cellsOf f.type)) ∧ B0 P g f.type r ∧ (Eh B → Ci r ≤ ((ys[i]?).map fun y => B y.1).getD 0) := fun i => by
        cases hfi : fs[i]? with
        | none => exact ⟨[], fun f hff => absurd hff (by simp)⟩
        | some f =>
          have hi : i < fs.size := (Array.getElem?_eq_some_iff.1 hfi).1
          have hyi : ys[i]? = some ys[i] := List.getElem?_eq_getElem (by omega)
          have htr := hf i f hfi
          rw [hyi] at htr
          have hmem : f ∈ fs.toList := by
           rw [← Array.getElem?_toList] at hfi
           exact List.mem_of_getElem? hfi
          obtain ⟨r, h1, h2, h3⟩ := OE B g n f.type _ (ys[i]).1 (ys[i]).2 htr (hpf f hmem) fun x hx' => hw x (HB i f.type (ys[i]).1 (by rw [List.getElem?_map, Array.getElem?_toList, hfi]; rfl) (by rw [List.getElem?_map, hyi]; rfl) x hx')
          exact ⟨r, fun f' hf' => by rw [← Option.some.inj hf']; exact ⟨h1, h2, fun hB => by rw [hyi]; exact h3 hB⟩⟩
       let pf : Nat → List D := fun i => Classical.choose (key i)
       have hpf' : ∀ (i : Nat) (f : Field), fs[i]? = some f → D6 W (fun b => b < W.heap.size) (pf i) ((cs.drop f.offset).take (P.cellsOf f.type)) ∧ B0 P g f.type (pf i) ∧ (Eh B → Ci (pf i) ≤ ((ys[i]?).map fun y => B y.1).getD 0) := fun i => Classical.choose_spec (key i)
       have walk : ∀ (l : List Field) (i off : Nat), (∀ j f, l[j]? = some f → fs[i + j]? = some f) → OD P off l = true → off + (l.map fun f => P.cellsOf f.type).sum = cs.length → D6 W (fun b => b < W.heap.size) ((List.range' i l.length).map pf).flatten (cs.drop off) := by
        intro l
        induction l with
        | nil => intro i off _ _ hs; simp at hs; subst hs; simp [D6]
        | cons f l ih =>
          intro i off hl hc hs
          simp only [OD, Bool.and_eq_true, beq_iff_eq] at hc
          obtain ⟨ho, hc⟩ := hc
          simp only [List.map_cons, List.sum_cons] at hs
          have h0 := (hpf' i f (by simpa using hl 0 f rfl)).1
          rw [ho] at h0
          have h1 := ih (i + 1) (off + P.cellsOf f.type) (fun j f' hj => by have := hl (j + 1) f' (by simpa using hj); rwa [← Nat.add_assoc, Nat.add_right_comm] at this) hc (by omega)
          rw [List.length_cons, List.range'_succ, List.map_cons, List.flatten_cons]
          have e : cs.drop off = (cs.drop off).take (P.cellsOf f.type) ++ cs.drop (off + P.cellsOf f.type) := by
           rw [← List.drop_drop, List.take_append_drop]
          rw [e]
          exact h0.append h1
       have hbk : Eh B → Ci ((List.range' 0 fs.size).map pf).flatten ≤ B (.agg (ys.map (·.1))) := fun hB => by
        have h1 := JK (f := pf) (g := fun i => ((ys[i]?).map fun y => B y.1).getD 0) (l := List.range' 0 fs.size) fun i hi => by
         have hi : i < fs.size := by simpa using hi
         exact (hpf' i fs[i] (Array.getElem?_eq_getElem hi)).2.2 hB
        have h2 := hB.agg (ys.map (·.1))
        rw [List.map_map] at h2
        have e : (List.range' 0 fs.size).map (fun i => ((ys[i]?).map fun y => B y.1).getD 0) = ys.map (B ∘ (·.1)) := by
         apply List.ext_getElem
         · simp [hyl]
         · intro i h1 h2
           have hi : i < ys.length := by simpa using h2
           simp [List.getElem?_eq_getElem hi]
        rw [e] at h1
        rw [F6]
        omega
       refine ⟨((List.range' 0 fs.size).map pf).flatten, ?_, ⟨(List.range' 0 fs.size).map pf, rfl, by simp, fun i f p hfi hpi => ?_⟩, hbk⟩
       · have := walk fs.toList 0 0 (fun j f hj => by simpa using hj) hco (by rw [hlc, ← hsum]; simp)
         simpa using this
       · have hi : i < fs.size := (Array.getElem?_eq_some_iff.1 hfi).1
         rw [List.getElem?_map, List.getElem?_range' hi] at hpi
         simp at hpi
         subst hpi
         exact (hpf' i f hfi).2.1
     | array m e =>
       simp only [Bool.and_eq_true, beq_iff_eq] at hp
       obtain ⟨hsum, hpe⟩ := hp
       obtain ⟨ys, n, _, hx, hlc, hyl, hf⟩ := DataW.trod_array hu h
       have hd : d = .agg (ys.map (·.1)) := congrArg Prod.fst hx
       subst hd
       simp only [DataW.weights, hu] at hw
       have key : ∀ i : Nat, ∃ r : List D, i < m → D6 W (fun b => b < W.heap.size) r ((cs.drop (i * P.cellsOf e)).take (P.cellsOf e)) ∧ B0 P g e r ∧ (Eh B → Ci r ≤ ((ys[i]?).map fun y => B y.1).getD 0) := fun i => by
        by_cases hi : i < m
        · have hil : i < ys.length := by omega
          have hyi : ys[i]? = some ys[i] := List.getElem?_eq_getElem hil
          have htr := hf i hi
          rw [hyi] at htr
          obtain ⟨r, h1, h2, h3⟩ := OE B g n e _ (ys[i]).1 (ys[i]).2 htr hpe fun x hx' => hw x (FN (List.mem_map.2 ⟨_, List.getElem_mem hil, rfl⟩) x hx')
          exact ⟨r, fun _ => ⟨h1, h2, fun hB => by rw [hyi]; exact h3 hB⟩⟩
        · exact ⟨[], fun h => absurd h hi⟩
       let pf : Nat → List D := fun i => Classical.choose (key i)
       have hpf' : ∀ i : Nat, i < m → D6 W (fun b => b < W.heap.size) (pf i) ((cs.drop (i * P.cellsOf e)).take (P.cellsOf e)) ∧ B0 P g e (pf i) ∧ (Eh B → Ci (pf i) ≤ ((ys[i]?).map fun y => B y.1).getD 0) := fun i => Classical.choose_spec (key i)
       have walk : ∀ (k i : Nat), i + k = m → D6 W (fun b => b < W.heap.size) ((List.range' i k).map pf).flatten (cs.drop (i * P.cellsOf e)) := by
        intro k
        induction k with
        | zero =>
          intro i hi
          have : cs.length ≤ i * P.cellsOf e := by rw [hlc, hsum, show i = m by omega]; exact Nat.le_refl _
          rw [List.drop_of_length_le this]; simp [D6]
        | succ k ih =>
          intro i hi
          have h0 := (hpf' i (by omega)).1
          have h1 := ih (i + 1) (by omega)
          rw [Nat.succ_mul] at h1
          rw [List.range'_succ, List.map_cons, List.flatten_cons]
          have e : cs.drop (i * P.cellsOf e) = (cs.drop (i * P.cellsOf e)).take (P.cellsOf e) ++ cs.drop (i * P.cellsOf e + P.cellsOf e) := by
           rw [← List.drop_drop, List.take_append_drop]
          rw [e]
          exact h0.append h1
       have hbk : Eh B → Ci ((List.range' 0 m).map pf).flatten ≤ B (.agg (ys.map (·.1))) := fun hB => by
        have h1 := JK (f := pf) (g := fun i => ((ys[i]?).map fun y => B y.1).getD 0) (l := List.range' 0 m) fun i hi => by
         have hi : i < m := by simpa using hi
         exact (hpf' i hi).2.2 hB
        have h2 := hB.agg (ys.map (·.1))
        rw [List.map_map] at h2
        have e : (List.range' 0 m).map (fun i => ((ys[i]?).map fun y => B y.1).getD 0) = ys.map (B ∘ (·.1)) := by
         apply List.ext_getElem
         · simp [hyl]
         · intro i h1 h2
           have hi : i < ys.length := by simpa using h2
           simp [List.getElem?_eq_getElem hi]
        rw [e] at h1
        rw [F6]
        omega
       refine ⟨((List.range' 0 m).map pf).flatten, ?_, ⟨(List.range' 0 m).map pf, rfl, by simp, fun p hp => ?_⟩, hbk⟩
       · have := walk m 0 (by omega)
         rwa [Nat.zero_mul, List.drop_zero] at this
       · obtain ⟨i, hi, rfl⟩ := List.mem_map.1 hp
         exact (hpf' i (by simpa using hi)).2.1
     | _ => simp at hp

def FD (P : Program) (t : TypeId) : Bool := match P.underlying t with | some (.struct _) | some (.array _ _) => true | _ => false
def Ye : List D → AV
 | [x] => x.av
 | _ => .any
def NA (b : Bool) (xs : List D) : AV := if b then .agg (xs.map D.av) else Ye xs

theorem YO {P : Program} {W : World} {I : Nat → Prop} {g base : Nat} {t : TypeId} {xs : List D} {v : Value} (hc : B0 P g t xs) (hr : D6 W I xs v.cells.toList) (ho : Value.okWide P W .any base t v) : AV.rel W I (NA (FD P t) xs) v := by
 cases g with
 | zero => exact hc.elim
 | succ g =>
   unfold B0 at hc
   unfold NA FD
   have one : ∀ {x : D}, xs = [x] → v.oneCell' = true → AV.rel W I (Ye xs) v := fun hx hv => by
    subst hx
    rw [cells_one hv] at hr
    exact D.av_rel hr.1
   cases hu : P.underlying t with
   | none => rw [hu] at hc; exact hc.elim
   | some td =>
     rw [hu] at hc
     cases td with
     | bool => obtain ⟨b, hx⟩ := hc; obtain ⟨_, rfl⟩ := WideShapes.okWide_bool hu ho; simp only [Bool.false_eq_true, if_false]; exact one hx rfl
     | int k => obtain ⟨n, hx, _⟩ := hc; obtain ⟨_, rfl⟩ := WideShapes.okWide_int hu ho; simp only [Bool.false_eq_true, if_false]; exact one hx rfl
     | string => obtain ⟨s, hx, _⟩ := hc; obtain ⟨_, rfl⟩ := WideShapes.okWide_string hu ho; simp only [Bool.false_eq_true, if_false]; exact one hx rfl
     | slice e => obtain ⟨rows, hx, _⟩ := hc; obtain ⟨_, _, _, rfl⟩ := WideShapes.okWide_slice hu ho; simp only [Bool.false_eq_true, if_false]; exact one hx rfl
     | struct fs =>
       unfold Value.okWide at ho
       rw [hu] at ho
       obtain ⟨cs, rfl, _, _⟩ := ho
       simp only [if_true]
       exact ⟨cs.toList, by simp, hr.av⟩
     | array n e =>
       unfold Value.okWide at ho
       rw [hu] at ho
       obtain ⟨cs, rfl, _, _⟩ := ho
       simp only [if_true]
       exact ⟨cs.toList, by simp, hr.av⟩
     | _ => exact hc.elim

section
open Go.RowKit Go.WideShapes Go.ChangeShapes
variable {H : Type} {enc : TypeId × Value → H} {P : Program}
theorem MI {f : Func} {s : ChangeSpec} {apart fresh handsOn again : Bool} {W W' : World} {args : Array Value} {v : Value} {ds gs : List (DataW H)} {before pa pv : List MemPlace}
 (hW : DataW.Whole enc P f.params.toList s.vars apart W args.toList ds gs before)
 (hres : ∀ (b : Nat) (sp : Nat → Bool) (hd : Bool), DataW.TrodAll enc P W' b sp hd f.resultTypes.toList (v.resultList f.resultTypes.size) (s.fn H (ds ++ gs)).results [])
 (hargs : ∀ sp : Nat → Bool, (∀ p ∈ before, sp p.block = true) → DataW.TrodAll enc P W' 0 sp true f.params.toList args.toList (s.fn H (ds ++ gs)).args pa)
 (hvars : ∀ sp : Nat → Bool, (∀ p ∈ before, sp p.block = true) → DataW.TrodVars enc P W' sp s.vars (s.fn H (ds ++ gs)).vars pv)
 (hps : before = pa ++ pv) (hb : Below W.heap.size W W')
 (hok : ∀ (j : Nat) (t : TypeId) (r : Value), f.resultTypes[j]? = some t → (v.resultList f.resultTypes.size)[j]? = some r → Value.okWide P W' .any 0 t r) :
 s.post enc P f apart fresh handsOn again W args v W' := by
 have hlt : ∀ p ∈ before, p.block < W.heap.size := fun p hp => hW.lt p hp
 have hold : ∀ p ∈ before, (fun b => decide (b < W.heap.size)) p.block = true := fun p hp => by simpa using hlt p hp
 refine ⟨ds, gs, before, [], pa, pv, hW, hres _ _ _, hargs _ hold, hvars _ hold, World.keptBut_mono (fun p hp => ⟨hp, ?_⟩) (hb.frame (· ∈ before)), fun _ => ?_⟩
 · rw [hps, List.mem_append] at hp
   exact Or.inr hp
 · obtain ⟨_, _, _, _, _, hz, hn⟩ := hW
   refine ⟨hok, _, _, ([] ++ pa) ++ pv, ⟨[] ++ pa, pv, trodAll_append (hargs _ (fun _ _ => rfl)) (hres _ _ _), hvars _ (fun _ _ => rfl), rfl, ?_, ?_⟩, ?_⟩
   · intro b off hp
     have hin : MemPlace.cell b off ∈ before := by rw [hps]; simpa using hp
     rw [hb.frozen (hlt _ hin)]
     exact hz b off hin
   · intro ha
     have := hn ha
     rw [hps] at this
     simpa using this
   · intro p hp _
     rw [hps]
     simpa using hp

theorem IP (hl : laidOutB P = true) {W W' : World} : ∀ {ts : List TypeId} {vs : List Value} {ds : List (DataW H)} {ps : List MemPlace}, (∀ t ∈ ts, P.readableRec t = true ∧ t < P.types.size) → DataW.TrodAll enc P W 0 (fun _ => true) true ts vs ds ps → (∀ p ∈ ps, W.sameAt W' p) →
 ∀ sp : Nat → Bool, (∀ p ∈ ps, sp p.block = true) → DataW.TrodAll enc P W' 0 sp true ts vs ds ps
 | [], [], [], _, _, h, _, _, _ => h
 | t :: ts, v :: vs, d :: ds, ps, ht, ⟨p, q, h1, h2, e⟩, hs, sp, hsp => by
   subst e
   exact ⟨p, q, WideElems.Trod_stays hl (ht t (by simp)).1 (ht t (by simp)).2 h1 (fun x hx => hs x (by simp [hx])) (fun x hx => hsp x (by simp [hx])),
    IP hl (fun t ht' => ht t (by simp [ht'])) h2 (fun x hx => hs x (by simp [hx])) sp (fun x hx => hsp x (by simp [hx])), rfl⟩

theorem Ml {W : World} {base g : Nat} (B : DataW H → Nat) : ∀ {ts : List TypeId} {vs : List Value} {ds : List (DataW H)} {ps : List MemPlace}, (∀ t ∈ ts, F7 P g t = true) → DataW.TrodAll enc P W 0 (fun _ => true) true ts vs ds ps →
 (∀ (j : Nat) t v, ts[j]? = some t → vs[j]? = some v → Value.okWide P W .any base t v) → (∀ x ∈ DataW.weightsEach P ts ds, x ≤ reachBytes) →
 ∃ xss : List (List D), xss.length = ts.length ∧ (∀ (j : Nat) t xs, ts[j]? = some t → xss[j]? = some xs → B0 P g t xs) ∧ AV.rels W (fun b => b < W.heap.size) ((ts.zip xss).map fun p => NA (FD P p.1) p.2) vs ∧ (Eh B → GD xss ≤ (ds.map B).sum)
 | [], [], [], _, _, _, _, _ => ⟨[], rfl, by simp, trivial, fun _ => by simp [GD]⟩
 | t :: ts, v :: vs, d :: ds, _, hp, ⟨p, q, ⟨fuel, h1⟩, h2, _⟩, hv, hw => by
   simp only [DataW.weightsEach, List.mem_append] at hw
   obtain ⟨xs, r1, r2, r3⟩ := OE B g fuel t v.cells.toList d p h1 (hp t (by simp)) fun x hx => hw x (.inl hx)
   obtain ⟨xss, i1, i2, i3, i4⟩ := Ml B (fun t ht => hp t (by simp [ht])) h2 (fun j t v h1 h2 => hv (j + 1) t v (by simpa using h1) (by simpa using h2)) fun x hx => hw x (.inr hx)
   refine ⟨xs :: xss, by simp [i1], fun j t' xs' h1 h2 => ?_, ⟨YO r2 r1 (hv 0 t v rfl rfl), i3⟩, fun hB => by
    have := r3 hB
    have := i4 hB
    simp only [GD, List.map_cons, List.sum_cons]
    omega⟩
   cases j with
   | zero => simp at h1 h2; subst h1; subst h2; exact r2
   | succ j => exact i2 j t' xs' (by simpa using h1) (by simpa using h2)

theorem XT {f : FuncId} {fn : Func} {s : ChangeSpec} {G : List (Nat × List D)} {g : Nat} {tb : TypeId} {W : World} {base : Nat} {args : Array Value} {ds gs : List (DataW H)} {before : List MemPlace}
 (hl : laidOutB P = true) (hpar : ∀ t ∈ fn.params.toList, F7 P g t = true ∧ P.readableRec t = true ∧ t < P.types.size) (hres : fn.resultTypes = #[tb]) (htb : P.underlying tb = some .bool) (hvars : s.vars = [])
 (hspec : ∀ ds : List (DataW H), ds.length = fn.params.toList.length → (s.fn H (ds ++ [])).results = [.lit (.bool true)] ∧ (s.fn H (ds ++ [])).args = ds ∧ (s.fn H (ds ++ [])).vars = [])
 (B : DataW H → Nat)
 (hac : ∀ xss : List (List D), xss.length = fn.params.toList.length → (∀ (j : Nat) t xs, fn.params.toList[j]? = some t → xss[j]? = some xs → B0 P g t xs) → (Eh B → GD xss ≤ (ds.map B).sum) → ACr P G f ((fn.params.toList.zip xss).map fun p => NA (FD P p.1) p.2) (.bool true))
 (hG : ∀ q ∈ G, PD W (fun b => b < W.heap.size) q.2 ⟨q.1, 0, none⟩)
 (hval : ∀ (j : Nat) t v, fn.params[j]? = some t → args[j]? = some v → Value.okWide P W .any base t v)
 (hW : DataW.Whole enc P fn.params.toList s.vars false W args.toList ds gs before)
 (hsize : (DataW.weightsEach P fn.params.toList ds).all (· ≤ reachBytes) = true) :
 Calls P f args W fun e W' => ∃ v, e = .returned v ∧ s.post enc P fn false true false false W args v W' := by
 have hW' := hW
 obtain ⟨p, q, hA, hV, rfl, hfz, hnd⟩ := hW
 rw [hvars] at hV
 obtain ⟨rfl, rfl⟩ : gs = [] ∧ q = [] := by cases gs <;> simp_all [DataW.TrodVars]
 obtain ⟨xss, x1, x2, x3, x4⟩ := Ml B (g := g) (base := base) (fun t ht => (hpar t ht).1) hA (fun j t v h1 h2 => hval j t v (by simpa using h1) (by simpa using h2)) (fun x hx => by simpa using List.all_eq_true.1 hsize x hx)
 have hcall := hac xss x1 x2 x4 (fun b => b < W.heap.size) W args.toList (by simp) (by simp [blks]) (fun b hb => ⟨hb, by simp [blks]⟩) hG x3
 rw [Array.toArray_toList] at hcall
 refine hcall.mono fun e W' hpost => ?_
 obtain ⟨r, h', I', ⟨rfl, rfl⟩, hok, hrel⟩ := hpost
 cases e with
 | panicked ch => exact hrel.elim
 | outgrown => exact hrel.elim
 | returned v =>
   have hv : v = .bool true := hrel
   subst hv
   refine ⟨_, rfl, ?_⟩
   have hb : Below W.heap.size W W' := ⟨hok.os, hok.tape, hok.output, hok.size, fun k hk => hok.keep k hk (by simp [blks])⟩
   have hdl : ds.length = fn.params.toList.length := by
    have : ∀ {ts : List TypeId} {vs : List Value} {ds : List (DataW H)} {ps : List MemPlace}, DataW.TrodAll enc P W 0 (fun _ => true) true ts vs ds ps → ds.length = ts.length := by
     intro ts
     induction ts with
     | nil => intro vs ds ps h; cases vs <;> cases ds <;> simp_all [DataW.TrodAll]
     | cons t ts ih =>
       intro vs ds ps h
       cases vs with
       | nil => cases h
       | cons v vs =>
         cases ds with
         | nil => cases h
         | cons d ds => obtain ⟨_, _, _, h2, _⟩ := h; simp [ih h2]
    exact this hA
   obtain ⟨e1, e2, e3⟩ := hspec ds hdl
   refine MI (pa := p) (pv := []) hW' (fun b sp hd => ?_) (fun sp hsp => ?_) (fun sp _ => ?_) rfl hb ?_
   · rw [e1, hres]
     simp only [Value.resultList, List.size_toArray, List.length_cons, List.length_nil, if_true]
     exact trodAll_mk1 (shut_bool htb true)
   · rw [e2]
     exact IP hl (fun t ht => (hpar t ht).2) hA (fun x hx => hb.same (hW'.lt x (by simp [hx]))) sp (fun x hx => hsp x (by simp [hx]))
   · rw [hvars, e3]; rfl
   · exact ok_one hres rfl (okWide_bool_mk htb true)
theorem ZL {f : FuncId} {fn : Func} {s : ChangeSpec} {G : List (Nat × List D)} {g : Nat} {tb : TypeId} {W : World} {base : Nat} {args : Array Value} {ds gs : List (DataW H)} {before : List MemPlace}
 (hl : laidOutB P = true) (hpar : ∀ t ∈ fn.params.toList, F7 P g t = true ∧ P.readableRec t = true ∧ t < P.types.size) (hres : fn.resultTypes = #[tb]) (htb : P.underlying tb = some .bool) (hvars : s.vars = [])
 (hspec : ∀ ds : List (DataW H), ds.length = fn.params.toList.length → (s.fn H (ds ++ [])).results = [.lit (.bool true)] ∧ (s.fn H (ds ++ [])).args = ds ∧ (s.fn H (ds ++ [])).vars = [])
 (hac : ∀ xss : List (List D), xss.length = fn.params.toList.length → (∀ (j : Nat) t xs, fn.params.toList[j]? = some t → xss[j]? = some xs → B0 P g t xs) → ACr P G f ((fn.params.toList.zip xss).map fun p => NA (FD P p.1) p.2) (.bool true))
 (hG : ∀ q ∈ G, PD W (fun b => b < W.heap.size) q.2 ⟨q.1, 0, none⟩)
 (hval : ∀ (j : Nat) t v, fn.params[j]? = some t → args[j]? = some v → Value.okWide P W .any base t v)
 (hW : DataW.Whole enc P fn.params.toList s.vars false W args.toList ds gs before)
 (hsize : (DataW.weightsEach P fn.params.toList ds).all (· ≤ reachBytes) = true) :
 Calls P f args W fun e W' => ∃ v, e = .returned v ∧ s.post enc P fn false true false false W args v W' :=
 XT hl hpar hres htb hvars hspec (fun _ => 0) (fun xss h1 h2 _ => hac xss h1 h2) hG hval hW hsize
end

theorem P5 {P : Program} {g : Nat} {t : TypeId} {k : IntKind} {xs : List D} (hu : P.underlying t = some (.int k)) (h : B0 P (g + 1) t xs) : ∃ n, xs = [.i k n] ∧ (Lit.int k n).wf = true := by unfold B0 at h; rw [hu] at h; exact h
theorem Lt {P : Program} {g : Nat} {t : TypeId} {xs : List D} (hu : P.underlying t = some .string) (h : B0 P (g + 1) t xs) : ∃ s, xs = [.s s] ∧ s.size ≤ 140737488355328 := by unfold B0 at h; rw [hu] at h; exact h
theorem O3 {α : Type} {f : α → List D} : ∀ {rows : List (List D)}, (∀ r ∈ rows, ∃ a, r = f a) → ∃ l : List α, rows = l.map f
 | [], _ => ⟨[], rfl⟩
 | r :: rows, h => by
   obtain ⟨a, rfl⟩ := h r (by simp)
   obtain ⟨l, rfl⟩ := O3 (rows := rows) fun r hr => h r (by simp [hr])
   exact ⟨a :: l, rfl⟩
theorem Da {P : Program} {g : Nat} {t e : TypeId} {sz eb : Nat} {xs : List D} {α : Type} {f : α → List D} (hu : P.underlying t = some (.slice e)) (hc : P.cellsOf e = sz) (hb : P.bytesOf e = eb) (hf : ∀ r, B0 P g e r → ∃ a, r = f a) (h : B0 P (g + 1) t xs) : ∃ l : List α, xs = [.l sz eb (l.map f)] ∧ l.length * eb ≤ 140737488351232 := by
 unfold B0 at h
 rw [hu] at h
 obtain ⟨rows, rfl, h1, h2⟩ := h
 obtain ⟨l, rfl⟩ := O3 fun r hr => hf r (h1 r hr)
 exact ⟨l, by rw [hc, hb], by rw [← hb]; simpa using h2⟩
theorem Dd {P : Program} {g : Nat} {t : TypeId} {f0 f1 : Field} {xs : List D} (hu : P.underlying t = some (.struct #[f0, f1])) (h : B0 P (g + 1) t xs) : ∃ p0 p1, xs = p0 ++ p1 ∧ B0 P g f0.type p0 ∧ B0 P g f1.type p1 := by
 unfold B0 at h
 rw [hu] at h
 obtain ⟨parts, rfl, hl, hp⟩ := h
 match parts, hl with
 | [p0, p1], _ => exact ⟨p0, p1, by simp, hp 0 f0 p0 rfl rfl, hp 1 f1 p1 rfl rfl⟩
theorem KV {P : Program} {g : Nat} {t : TypeId} {f0 f1 f2 : Field} {xs : List D} (hu : P.underlying t = some (.struct #[f0, f1, f2])) (h : B0 P (g + 1) t xs) : ∃ p0 p1 p2, xs = p0 ++ (p1 ++ p2) ∧ B0 P g f0.type p0 ∧ B0 P g f1.type p1 ∧ B0 P g f2.type p2 := by
 unfold B0 at h
 rw [hu] at h
 obtain ⟨parts, rfl, hl, hp⟩ := h
 match parts, hl with
 | [p0, p1, p2], _ => exact ⟨p0, p1, p2, by simp, hp 0 f0 p0 rfl rfl, hp 1 f1 p1 rfl rfl, hp 2 f2 p2 rfl rfl⟩
theorem KX {P : Program} {g : Nat} {t : TypeId} {f0 f1 f2 f3 : Field} {xs : List D} (hu : P.underlying t = some (.struct #[f0, f1, f2, f3])) (h : B0 P (g + 1) t xs) : ∃ p0 p1 p2 p3, xs = p0 ++ (p1 ++ (p2 ++ p3)) ∧ B0 P g f0.type p0 ∧ B0 P g f1.type p1 ∧ B0 P g f2.type p2 ∧ B0 P g f3.type p3 := by
 unfold B0 at h
 rw [hu] at h
 obtain ⟨parts, rfl, hl, hp⟩ := h
 match parts, hl with
 | [p0, p1, p2, p3], _ => exact ⟨p0, p1, p2, p3, by simp, hp 0 f0 p0 rfl rfl, hp 1 f1 p1 rfl rfl, hp 2 f2 p2 rfl rfl, hp 3 f3 p3 rfl rfl⟩
end Go.Av
namespace Go.Proofs.YtibahljljjkceaaGreatDoor
open Go Go.Av Go.Sp
theorem GY {g : Nat} {xs : List D} (h : B0 Tryz.prog (g + 1) 3 xs) : ∃ n, xs = [.i .i64 n] := by obtain ⟨n, h, _⟩ := P5 Tryz.underlying3 h; exact ⟨n, h⟩
theorem XM {g : Nat} {xs : List D} (h : B0 Tryz.prog (g + 2) 144 xs) : ∃ o : Fo, xs = o.cells := by
  obtain ⟨p0, p1, rfl, h0, h1⟩ := Dd Tryz.underlying144 h
  obtain ⟨a, rfl⟩ := GY h0
  obtain ⟨b, rfl⟩ := GY h1
  exact ⟨⟨a, b⟩, rfl⟩
theorem Iw {g : Nat} {xs : List D} (h : B0 Tryz.prog (g + 3) 27 xs) : ∃ l : List Fo, xs = [AO l] ∧ l.length * 16 ≤ 140737488351232 := Da Tryz.underlying27 (by kernel_rfl) (by kernel_rfl) (fun _ h => XM h) h
theorem Qm {g : Nat} {xs : List D} (h : B0 Tryz.prog (g + 4) 26 xs) : ∃ l : List (List Fo), xs = [Aw l] ∧ l.length * 24 ≤ 140737488351232 := Da Tryz.underlying26 (by kernel_rfl) (by kernel_rfl) (fun _ h => by obtain ⟨l, h, _⟩ := Iw h; exact ⟨l, h⟩) h

theorem RN : Cal Tryz.prog 29 := Cal.of Tryz.func29 (by kernel_rfl) (by kernel_rfl)
theorem MF : Cal Tryz.prog 35 := Cal.of Tryz.func35 (by kernel_rfl) (by kernel_rfl)
theorem ME {g : Nat} {xs : List D} (h : B0 Tryz.prog (g + 2) 142 xs) : ∃ v : Vr, xs = v.cells := by
 obtain ⟨p0, p1, p2, p3, rfl, h0, h1, h2, h3⟩ := KX Tryz.underlying142 h
 obtain ⟨s, rfl, _⟩ := Lt Tryz.underlying9 h0
 obtain ⟨a, rfl⟩ := GY h1
 obtain ⟨b, rfl⟩ := GY h2
 obtain ⟨c, rfl⟩ := GY h3
 exact ⟨⟨s, a, b, c⟩, rfl⟩
theorem S0 {g : Nat} {xs : List D} (h : B0 Tryz.prog (g + 3) 22 xs) : ∃ l : List Vr, xs = [Aq l] ∧ l.length * 40 ≤ 140737488351232 := Da Tryz.underlying22 (by kernel_rfl) (by kernel_rfl) (fun _ h => ME h) h
theorem WV {g : Nat} {xs : List D} (h : B0 Tryz.prog (g + 4) 133 xs) : ∃ s : St, xs = s.cells := by
 obtain ⟨p0, p1, rfl, h0, h1⟩ := Dd Tryz.underlying133 h
 obtain ⟨a, rfl⟩ := GY h0
 obtain ⟨l, rfl, _⟩ := Iw h1
 exact ⟨⟨a, l⟩, rfl⟩
theorem TR {g : Nat} {xs : List D} (h : B0 Tryz.prog (g + 5) 129 xs) : ∃ l : List St, xs = [Fk l] ∧ l.length * 32 ≤ 140737488351232 := Da Tryz.underlying129 (by kernel_rfl) (by kernel_rfl) (fun _ h => WV h) h
theorem Sw {g : Nat} {xs : List D} (h : B0 Tryz.prog (g + 6) 131 xs) : ∃ r : Ru, xs = r.cells := by
 obtain ⟨p0, p1, rfl, h0, h1⟩ := Dd Tryz.underlying131 h
 obtain ⟨a, rfl, _⟩ := Iw h0
 obtain ⟨l, rfl, _⟩ := TR h1
 exact ⟨⟨a, l⟩, rfl⟩
theorem RR {g : Nat} {xs : List D} (h : B0 Tryz.prog (g + 7) 23 xs) : ∃ l : List Ru, xs = [Ad l] ∧ l.length * 48 ≤ 140737488351232 := Da Tryz.underlying23 (by kernel_rfl) (by kernel_rfl) (fun _ h => Sw h) h
theorem Rb {g : Nat} {xs : List D} (h : B0 Tryz.prog (g + 8) 25 xs) : ∃ m : Md, xs = m.cells := by
 obtain ⟨p0, p1, rfl, h0, h1⟩ := Dd Tryz.underlying25 h
 obtain ⟨a, rfl, _⟩ := S0 h0
 obtain ⟨l, rfl, _⟩ := RR h1
 exact ⟨⟨a, l⟩, rfl⟩
theorem NV : Eq4 Tryz.prog 142 := ⟨by kernel_rfl, fun s a b c w => by
 have u3 := Tryz.underlying3
 have u9 := Tryz.underlying9
 rw [show (10000 : Nat) = 9999 + 1 from rfl, run_equalIn_agg w 9999 142 _ _ (by kernel_rfl) (by kernel_rfl)]
 simp only [Program.fieldsOf, Tryz.underlying142]
 go_simp
 try simp⟩
theorem Zv (G : List (Nat × List D)) (m : Md) : ACr Tryz.prog G 29 [mdA m] (mdA m) := by
 refine AC.factI (f := Vr.cells) (xs := m.vars) (.agg .here) fun hlv => ?_
 refine AC.factI (f := Ru.cells) (xs := m.rules) (.agg (.there .here)) fun hlr => ?_
 refine AC.factU (f := Ru.cells) (e := St.cells) (g := Ru.sets) (xs := m.rules) 1 (fun _ => rfl) (.agg (.there .here)) fun hls => ?_
 refine Ec (rs := [.cell 2 25]) Tryz.f29.ntmps Tryz.func29 rfl rfl rfl (by simp [Tryz.ntmps29]) fun W I => ?_
 repeat' (first
  | refine ca Fm (O2 _ _) ?_
  | exact True.intro | refine AD ?_ | refine two ?_ ?_ | refine AB fun c_ => ?_
  | (refine imp fun hc => ?_) <;> try exact cx1 hc
  | refine all fun v_ => ?_)
 rename_i bm bt
 refine C4 (E := 131) (sz := 2) Ru.cells ?_
 refine AG (X := Nat × Sl) (fun y => [(1, .val (.pointer (some ⟨bm, 0, none⟩))), (2, .val (.pointer (some ⟨bt, 0, none⟩))), (3, .val (.pointer (some ⟨v_, 0, none⟩))), (4, .int y.1)]) (fun y => [AM y.2.v 131 2 Ru.cells (m.rules.take y.1), .cells v_ 25 [.d (Aq m.vars), .val y.2.v], .cells bm 25 [.d (Aq m.vars), .d (Ad m.rules)], .cells bt 25 [.val (.slice none 0 0), .val (.slice none 0 0)]]) (fun y => y.1 ≤ m.rules.length) (fun y => m.rules.length - y.1) (0, Sl.nil) (Nat.zero_le _) (VS.take (by exact AI) ?_) ?_
 · exact leD
 rintro ⟨i, q⟩ h1
 dsimp only at h1 ⊢
 have hlen : (m.rules.take i).length = i := by rw [List.length_take]; omega
 by_cases hi : i < m.rules.length
 · have hlsi := hls m.rules[i] (List.getElem_mem hi)
   repeat' (first
    | refine ca Fm (O2 _ _) ?_
    | exact True.intro | refine AD ?_ | refine two ?_ ?_ | refine AB fun c_ => ?_
    | (refine imp fun hc => ?_) <;> try exact cx1 hc
    | refine all fun v_ => ?_)
   refine C4 (E := 133) (sz := 2) St.cells ?_
   rename_i bo
   refine AG (X := Nat × Sl) (fun y => [(1, .val (.pointer (some ⟨bm, 0, none⟩))), (2, .val (.pointer (some ⟨bt, 0, none⟩))), (3, .val (.pointer (some ⟨bo, 0, none⟩))), (4, .int i), (5, .val (.pointer (some ⟨v_, 0, none⟩))), (6, .int y.1)]) (fun y => [AM y.2.v 133 2 St.cells (m.rules[i].sets.take y.1), .cells v_ 131 [.d (AO m.rules[i].guard), .val y.2.v], AM q.v 131 2 Ru.cells (m.rules.take i), .cells bo 25 [.d (Aq m.vars), .val q.v], .cells bm 25 [.d (Aq m.vars), .d (Ad m.rules)], .cells bt 25 [.val (.slice none 0 0), .val (.slice none 0 0)]]) (fun y => y.1 ≤ m.rules[i].sets.length) (fun y => m.rules[i].sets.length - y.1) (0, Sl.nil) (Nat.zero_le _) (VS.take (by exact AI) ?_) ?_
   · exact leD
   rintro ⟨k, p⟩ k1
   dsimp only at k1 ⊢
   have hlen2 : (m.rules[i].sets.take k).length = k := by rw [List.length_take]; omega
   by_cases hk : k < m.rules[i].sets.length
   · have et : m.rules[i].sets.take k ++ [m.rules[i].sets[k]] = m.rules[i].sets.take (k + 1) := (List.take_succ_eq_append_getElem hk).symm
     repeat' (first
      | refine ca Fm (O2 _ _) ?_
      | exact True.intro | refine CJ ?_ | refine two ?_ ?_ | refine AB fun c_ => ?_
      | (refine imp fun hc => ?_) <;> try exact cx hc
      | refine all fun v_ => ?_)
     refine ⟨?_⟩
     refine B7 [AM p.v 133 2 St.cells (m.rules[i].sets.take k)] mixed rfl (by (repeat ((with_reducible apply Hd.cons); (focus rfl))); exact Hd.nil) (by (repeat (with_reducible apply Ax)); exact len_nil) (by decide +kernel) (by exact Ap) ?_
     repeat' (first
      | refine ca Fm (O2 _ _) ?_
      | ((with_reducible apply (Ij (cs := St.cells (m.rules[i].sets[k])))); (focus rfl); (focus rfl); (focus (with_reducible exact ElC.h)); (focus rfl); (focus rfl); (focus rfl); (focus rfl); (focus rfl))
      | exact True.intro | refine AD ?_ | refine two ?_ ?_ | refine AB fun c_ => ?_
      | (refine imp fun hc => ?_) <;> try exact cx1 hc
      | refine all fun v_ => ?_)
     refine ⟨(k + 1, v_), by dsimp only; omega, by dsimp only; omega, ?_⟩
     dsimp only
     rw [← et]
     refine VS.take (by exact AI) ?_
     exact leD
   obtain rfl : k = m.rules[i].sets.length := by omega
   rw [List.take_length]
   have et : m.rules.take i ++ [m.rules[i]] = m.rules.take (i + 1) := (List.take_succ_eq_append_getElem hi).symm
   refine Ho (Gj (h1 := []) (h' := [.cells v_ 131 [.d (AO m.rules[i].guard), .d (Fk m.rules[i].sets)], AM q.v 131 2 Ru.cells (m.rules.take i), .cells bo 25 [.d (Aq m.vars), .val q.v], .cells bm 25 [.d (Aq m.vars), .d (Ad m.rules)], .cells bt 25 [.val (.slice none 0 0), .val (.slice none 0 0)]]) 32 rfl rfl (fun _ => rfl) hlsi (CvE.refl _ _ _) (CvH.cells (.cons (.same _) (.cons .here .nil)) (.refl _))) ?_
   repeat' (first
    | refine ca Fm (O2 _ _) ?_
    | ((with_reducible apply (Ij (cs := Ru.cells m.rules[i]))); (focus rfl); (focus rfl); (focus (with_reducible exact ElC.h)); (focus rfl); (focus rfl); (focus rfl); (focus rfl); (focus rfl))
    | ((with_reducible apply (Ea (f := Ru.cells) (u := m.rules[i]))); (focus rfl); (focus rfl); (focus (with_reducible exact ElC.h)); (focus exact Db); (focus rfl); (focus rfl); (focus rfl); (focus rfl); (focus exact BI); (focus exact BI))
    | exact True.intro | refine AD ?_ | refine two ?_ ?_ | refine AB fun c_ => ?_
    | (refine imp fun hc => ?_) <;> try exact cx1 hc
    | refine all fun v_ => ?_)
   refine ⟨(i + 1, v_), by dsimp only; omega, by dsimp only; omega, ?_⟩
   dsimp only
   rw [← et]
   refine VS.take (by exact AI) ?_
   exact leD
 obtain rfl : i = m.rules.length := by omega
 rw [List.take_length]
 refine Ho (Gj (h1 := []) (h' := [.cells v_ 25 [.d (Aq m.vars), .d (Ad m.rules)], .cells bm 25 [.d (Aq m.vars), .d (Ad m.rules)], .cells bt 25 [.val (.slice none 0 0), .val (.slice none 0 0)]]) 48 rfl rfl (fun _ => rfl) hlr (CvE.refl _ _ _) (CvH.cells (.cons (.same _) (.cons .here .nil)) (.refl _))) ?_
 repeat' (first
  | exact True.intro | refine AD ?_ | refine two ?_ ?_ | refine AB fun c_ => ?_
  | (refine imp fun hc => ?_) <;> try exact cx1 hc
  | refine all fun v_ => ?_)
 exact Yi (xs := [mdA m]) ⟨Dt rfl (by (with_reducible exact ElC.h)) rfl (by exact Az) rfl, trivial⟩ rfl (h' := []) (List.nil_sublist _) (AA rfl)
theorem S8 (G : List (Nat × List D)) (m : Md) : ACr Tryz.prog G 35 [mdA m, mdA m] (.bool true) := by
 refine AC.factI (f := Vr.cells) (xs := m.vars) (.agg .here) fun hlv => ?_
 refine AC.factI (f := Ru.cells) (xs := m.rules) (.agg (.there .here)) fun hlr => ?_
 refine AC.factU (f := Ru.cells) (e := St.cells) (g := Ru.sets) (xs := m.rules) 1 (fun _ => rfl) (.agg (.there .here)) fun hls => ?_
 refine AN (ts := [4]) Tryz.f35.ntmps Tryz.func35 rfl rfl rfl (by simp [Tryz.ntmps35]) fun W I => ?_
 repeat' (first
  | exact True.intro | refine AD ?_ | refine two ?_ ?_ | refine AB fun c_ => ?_
  | (refine imp fun hc => ?_) <;> try exact cx1 hc
  | refine all fun v_ => ?_)
 rename_i ba _
 obtain ⟨bb, rfl⟩ : ∃ x, x = v_ := ⟨v_, rfl⟩
 refine AG (X := Nat) (fun i => [(2, .val (.pointer (some ⟨ba, 0, none⟩))), (3, .val (.pointer (some ⟨bb, 0, none⟩))), (5, .int i)]) (fun _ => [.cells bb 25 [.d (Aq m.vars), .d (Ad m.rules)], .cells ba 25 [.d (Aq m.vars), .d (Ad m.rules)]]) (fun i => i ≤ m.vars.length) (fun i => m.vars.length - i) 0 (Nat.zero_le _) (VS.of_le ?_) ?_
 · exact leD
 rintro i h1
 by_cases hi : i < m.vars.length
 · 
   repeat' (first
    | ((with_reducible apply jp); (focus ((with_reducible apply (X0 NV)); rfl; rfl)); (focus rfl))
    | exact True.intro | refine AD ?_ | refine two ?_ ?_ | refine AB fun c_ => ?_
    | (refine imp fun hc => ?_) <;> try exact cx1 hc
    | refine all fun v_ => ?_)
   refine ⟨i + 1, by omega, by omega, VS.of_le ?_⟩
   exact leD
 obtain rfl : i = m.vars.length := by omega
 repeat' (first
  | exact True.intro | refine AD ?_ | refine two ?_ ?_ | refine AB fun c_ => ?_
  | (refine imp fun hc => ?_) <;> try exact cx1 hc
  | refine all fun v_ => ?_)
 refine AG (X := Nat) (fun i => [(2, .val (.pointer (some ⟨ba, 0, none⟩))), (3, .val (.pointer (some ⟨bb, 0, none⟩))), (6, .int i)]) (fun _ => [.cells bb 25 [.d (Aq m.vars), .d (Ad m.rules)], .cells ba 25 [.d (Aq m.vars), .d (Ad m.rules)]]) (fun i => i ≤ m.rules.length) (fun i => m.rules.length - i) 0 (Nat.zero_le _) (VS.of_le ?_) ?_
 · exact leD
 rintro i h1
 by_cases hi : i < m.rules.length
 · have hlsi := hls m.rules[i] (List.getElem_mem hi)
   have e1 := A5 (I4 G m.rules[i].guard m.rules[i].guard) rfl
   repeat' (first
    | refine ca B8 (e1) ?_
    | exact True.intro | refine AD ?_ | refine two ?_ ?_ | refine AB fun c_ => ?_
    | (refine imp fun hc => ?_) <;> try exact cx1 hc
    | refine all fun v_ => ?_)
   rename_i bx
   refine AG (X := Nat) (fun k => [(2, .val (.pointer (some ⟨ba, 0, none⟩))), (3, .val (.pointer (some ⟨bb, 0, none⟩))), (6, .int i), (7, .val (.pointer (some ⟨bx, 0, none⟩))), (8, .val (.pointer (some ⟨v_, 0, none⟩))), (9, .int k)]) (fun _ => [.cells v_ 131 [.d (AO m.rules[i].guard), .d (Fk m.rules[i].sets)], .cells bx 131 [.d (AO m.rules[i].guard), .d (Fk m.rules[i].sets)], .cells bb 25 [.d (Aq m.vars), .d (Ad m.rules)], .cells ba 25 [.d (Aq m.vars), .d (Ad m.rules)]]) (fun k => k ≤ m.rules[i].sets.length) (fun k => m.rules[i].sets.length - k) 0 (Nat.zero_le _) (VS.of_le ?_) ?_
   · exact leD
   rintro k k1
   by_cases hk : k < m.rules[i].sets.length
   · have e2 := A5 (I4 G m.rules[i].sets[k].val m.rules[i].sets[k].val) rfl
     repeat' (first
      | refine ca B8 (e2) ?_
      | refine caq B8 (e2) ?_
      | exact True.intro | refine AR ?_ | refine two ?_ ?_
      | (refine imp fun hc => ?_) <;> try exact cx hc
      | refine all fun v_ => ?_)
     refine ⟨k + 1, by omega, by omega, VS.of_le ?_⟩
     exact leD
   repeat' (first
    | refine ca B8 (e2) ?_
    | refine caq B8 (e2) ?_
    | exact True.intro | refine AD ?_ | refine two ?_ ?_ | refine AB fun c_ => ?_
    | (refine imp fun hc => ?_) <;> try exact cx1 hc
    | refine all fun v_ => ?_)
   refine ⟨i + 1, by omega, by omega, VS.take (by exact AI) ?_⟩
   exact leD
 repeat' (first
  | refine ca B8 (e2) ?_
  | refine caq B8 (e2) ?_
  | exact True.intro | refine AD ?_ | refine two ?_ ?_ | refine AB fun c_ => ?_
  | (refine imp fun hc => ?_) <;> try exact cx1 hc
  | refine all fun v_ => ?_)
 refine AH (VS.drop (List.nil_sublist _)) ?_
 ((with_reducible apply rq1); rfl; rfl)
 exact AA rfl
end Go.Proofs.YtibahljljjkceaaGreatDoor
