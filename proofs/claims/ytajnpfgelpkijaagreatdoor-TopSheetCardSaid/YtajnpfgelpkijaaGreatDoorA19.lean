/- A bundle of this claim's own texts: R6 K2 V2 V3. -/
import Derived.Test.YtajnpfgelpkijaaGreatDoorA2
import Derived.Test.YtajnpfgelpkijaaGreatDoorA13
import Derived.Test.YtajnpfgelpkijaaGreatDoorA14
import Derived.Test.YtajnpfgelpkijaaGreatDoorA15
import Derived.Test.YtajnpfgelpkijaaGreatDoorA17
set_option linter.unusedVariables false
set_option linter.unusedSimpArgs false
set_option maxRecDepth 100000
set_option maxHeartbeats 4000000
namespace Go.Sp
open Go Go.Av
def wdC (w : List UInt8) : List D := [.s (tx w)]
abbrev Y9 (ws : List (List UInt8)) : D := .l 1 16 (ws.map wdC)
end Go.Sp
namespace Go.Proofs.YtajnpfgelpkijaaGreatDoor
open Go Go.Av Go.Sp Go.RowKit
theorem Bu : Cal Tryz.prog 38 := Cal.of Tryz.func38 (by kernel_rfl) (by kernel_rfl)
theorem Ww : Cal Tryz.prog 14 := Cal.of Tryz.func14 (by kernel_rfl) (by kernel_rfl)
theorem Mr : Cal Tryz.prog 15 := Cal.of Tryz.func15 (by kernel_rfl) (by kernel_rfl)
theorem C3 : Cal Tryz.prog 115 := Cal.of Tryz.func115 (by kernel_rfl) (by kernel_rfl)
theorem Dw : Cal Tryz.prog 37 := Cal.of Tryz.func37 (by kernel_rfl) (by kernel_rfl)
theorem PC {w : World} {I : Nat → Prop} {g : Nat} {p : Value → Prop} (h : PD w I [.sm fun _ _ v => p v] ⟨g, 0, none⟩) : ∃ v, w.cell? ⟨g, 0, none⟩ = some v ∧ p v := by
 obtain ⟨c, h1, hr⟩ := h.2 0 _ rfl
 cases hr with
 | sm q b o v hI hw hc hq h1' => exact ⟨_, h1, hq⟩
theorem Atoi (w : List UInt8) (hw : w.length ≤ 100000) : ACr Tryz.prog GP 38 [.val (.string (tx w))] (.tup [.int (Ae w), .any]) := by
 refine Lm (us := [.string (tx w)]) fun W I _ hg => ?_
 cases ha : Lib.atoiAll w with
 | ok v =>
   have e : Ae w = v := by unfold Ae; rw [ha]
   rw [e]
   refine (Any.strconv_Atoi_ok Tryz.laysC172 (tx w) (by show w.length ≤ _; omega) v ha W).mono ?_
   rintro e' w' ⟨rfl, hb⟩
   refine ⟨?_, _, rfl, [_, _], rfl, rfl, trivial, trivial⟩
   rcases hb with rfl | ⟨t, rfl⟩
   · exact Below.refl _ _
   · exact Lib.bytesWorld_below _ _ _
 | range =>
   have e : Ae w = Lib.atoiSat w := by unfold Ae; rw [ha]
   rw [e]
   obtain ⟨ev, h1, h2⟩ := PC (p := isIf) (hg _ dp)
   refine (Any.strconv_Atoi_range Tryz.laysC172 (tx w) (by show w.length ≤ _; omega) ha ev W h1 h2).mono ?_
   rintro e' w' ⟨N, rfl, _, _, hb⟩
   exact ⟨hb, _, rfl, [_, _], rfl, rfl, trivial, trivial⟩
 | _ =>
   have e : Ae w = 0 := by unfold Ae; rw [ha]
   rw [e]
   obtain ⟨ev, h1, h2⟩ := PC (p := isIf) (hg _ eK)
   refine (Any.strconv_Atoi_syntax Tryz.laysC172 (tx w) (by show w.length ≤ _; omega) ha ev W h1 h2).mono ?_
   rintro e' w' ⟨N, rfl, _, _, hb⟩
   exact ⟨hb, _, rfl, [_, _], rfl, rfl, trivial, trivial⟩
theorem Split (s : List UInt8) (hs : s.length ≤ 100000) : ACr Tryz.prog GP 14 [.val (.string (tx s)), .val (.string (tx [32]))] (.d (Y9 (spl 32 s))) := by
 have hl : (Lib.splitB (tx [32]) 0 (Lib.countB (tx s) (tx [32])) (tx s)) = (spl 32 s).map tx := TX 32 (tx s)
 have hc : Lib.countB (tx s) (tx [32]) + 1 = ((spl 32 s).map tx).length := by
  rw [← hl, Lib.splitB_all (tx [32]) (by decide) 0 _ (tx s) rfl]
 have hne := GQ 32 s
 have hlen := K9 32 s
 have k := Wl (P := Tryz.prog) (G := GP) (f := 14) (us := [.string (tx s), .string (tx [32])]) (T := 9) (l := (spl 32 s).map tx) (by rw [List.length_map]; cases h : spl 32 s with | nil => exact absurd h hne | cons a l => simp) (by rw [List.length_map]; omega) fun w I hg => by
  obtain ⟨v, h1, m, rfl⟩ := PC (p := Uq) (hg _ fC)
  have h := Any.strings_Split (ρ := Tryz.laysM146_ren) { Tryz.laysM146 with } Tryz.laysM146.i9 (tx s) (tx [32]) m w (by show s.length < _; omega) h1 (by decide)
  rw [hl, hc] at h
  refine h.mono ?_
  rintro e w' ⟨rfl, rfl⟩
  exact ⟨rfl, rfl⟩
 rw [List.map_map] at k
 exact k
theorem Sq (s : List UInt8) (hs : s.length ≤ 100000) : ACr Tryz.prog GP 15 [.val (.string (tx s)), .val (.string (tx [10]))] (.val (.string (tx (Lib.trimSuffix s [10])))) :=
 KD (us := [.string (tx s), .string (tx [10])]) fun w I _ => (Any.strings_TrimSuffix Tryz.lays102 (tx s) (tx [10]) w (by show s.length ≤ _; omega)).mono fun e w' ⟨h1, h2⟩ => ⟨h1, by rw [h2]; exact Below.refl _ _⟩
theorem XE (s : List UInt8) : ACr Tryz.prog GP 115 [.val (.string (tx s)), .val (.string (tx [80]))] (.tup [.val (.string (tx (Lib.trimPrefix s [80]))), .val (.bool (Lib.hasPrefix s [80]))]) := by
 refine Lm (us := [.string (tx s), .string (tx [80])]) fun w I _ _ => (Any.strings_CutPrefix Tryz.lays103 (tx s) (tx [80]) w).mono ?_
 rintro e w' ⟨rfl, rfl⟩
 exact ⟨Below.refl _ _, _, rfl, [_, _], rfl, rfl, rfl, trivial⟩
theorem VY (s : List UInt8) : ACr Tryz.prog GP 37 [.val (.string (tx s)), .val (.int .u8 10)] (.int (Lib.indexByte s 10)) :=
 KD (us := [.string (tx s), .int .u8 10]) fun w I _ => (Any.strings_IndexByte Tryz.lays137 (tx s) 10 w).mono fun e w' ⟨h1, h2⟩ => ⟨h1, by rw [h2]; exact Below.refl _ _⟩
open Go Go.Av Go.Sp
section
variable (G : List (Nat × List D)) (bg : Nat) (raw : List Fo) (vars props : Int)
theorem WM {α : Type} (out : List α) (o : α) (x y : List α) : out ++ [o] ++ x ++ y = out ++ o :: (x ++ y) := by simp
theorem eC {α : Type} (out : List α) (o : α) (x : List α) : out ++ [o] ++ x = out ++ o :: x := by simp
theorem Vm {α : Type} (a : Nat) (o : α) (x y : List α) : a + 1 + x.length + y.length = a + (o :: (x ++ y)).length := by simp; omega
theorem fK {α : Type} (a : Nat) (o : α) (x : List α) : a + 1 + x.length = a + (o :: x).length := by simp; omega
theorem XM {p q : Prop} (hp : p) (h : p → q := by
 apply cmp; (focus (first
  | ((with_reducible apply Ez); (focus rfl); (focus exact AH); (focus exact Ap G (tk raw a).kind 5 (by decide) (B9 hr a).1); (focus rfl))
  | ((with_reducible apply je_call0); (focus rfl); (focus (decide +kernel)); (focus rfl); (focus exact AH); (focus exact Ap G (tk raw a).kind 5 (by decide) (B9 hr a).1); (focus rfl))
  | ((with_reducible apply Ez); (focus rfl); (focus exact AH); (focus exact Ap G (tk raw a).kind 2 (by decide) (B9 hr a).1); (focus rfl))
  | ((with_reducible apply je_call0); (focus rfl); (focus (decide +kernel)); (focus rfl); (focus exact AH); (focus exact Ap G (tk raw a).kind 2 (by decide) (B9 hr a).1); (focus rfl))
  | ((with_reducible apply Ez); (focus rfl); (focus exact AH); (focus exact Ap G (tk raw a).val 9 (by decide) (B9 hr a).2); (focus rfl))
  | ((with_reducible apply je_call0); (focus rfl); (focus (decide +kernel)); (focus rfl); (focus exact AH); (focus exact Ap G (tk raw a).val 9 (by decide) (B9 hr a).2); (focus rfl))
  ))
 exact fun h => h) : q := h hp
theorem bI (hr : Bd raw) (hv : 0 < vars ∧ vars ≤ 1000) (t : Int) (d a : Nat) (hd : d ≤ 100) (x y : List Fo) (q : Sl) (out : List Fo) (ha : a ≤ 400) (ho : out.length + x.length ≤ 1999) (hk : 2 ≤ Dy raw (d + 1) a)
 (ihx : ∀ (q : Sl) (out' : List Fo), out'.length ≤ out.length + 1 → GrT 86 G bg raw vars props t (((d + 1 : Nat) : Int) - 1) (a + 1) q out' x t)
 (ihy : ∀ (q : Sl) (out' : List Fo), out'.length ≤ out.length + 1 + x.length → GrT 86 G bg raw vars props t (((d + 1 : Nat) : Int) - 1) (a + 1 + x.length) q out' y t) :
 GrT 86 G bg raw vars props t (((d + 1 : Nat) : Int)) (a) q out (⟨Dy raw (d + 1) a + 1, 0⟩ :: (x ++ y)) t := by
 have h5 := pkb (tk raw a).kind (many := 5) (by decide)
 have h2 := pkb (tk raw a).kind (many := 2) (by decide)
 have hb := GC raw (d + 1) a
 have c1 : ¬ 14 < a + 1 := fun c => by
  have : Dy raw (d + 1) a = pk (tk raw a).kind 2 := if_pos (.inr c)
  omega
 have e : Dy raw (d + 1) a = pk (tk raw a).kind 5 := if_neg (fun k => k.elim (by omega) c1)
 have e2 : (⟨Dy raw (d + 1) a + 1, 0⟩ : Fo) = ⟨3 + pk (tk raw a).kind 5 - 2, 0⟩ := by rw [e]; congr 1; omega
 rw [e2]
 have l1 : ∀ o : Fo, (out ++ [o]).length = out.length + 1 := fun o => by simp
 have l2 : ∀ o : Fo, (out ++ [o] ++ x).length = out.length + 1 + x.length := fun o => by simp; omega
 unfold GrT
 refine AK (ts := []) Tryz.f86.ntmps Tryz.func86 rfl rfl rfl (by simp [Tryz.ntmps86]) fun W I => ?_
 repeat' (first
  | refine XM ?_
  | refine ca AH (Ap G (tk raw a).val vars hv.1 (B9 hr a).2) ?_
  | ((with_reducible apply Au); (focus rfl); (focus exact By); (focus exact take G bg raw vars props a t q.v (by omega)); (focus exact AS); (focus rfl); (focus exact A8))
  | ((with_reducible apply Au); (focus rfl); (focus exact Bp); (focus exact IW G bg raw vars props (a + 1) t q out (3 + pk (tk raw a).kind 5 - 2) 0 (by omega)); (focus exact AS); (focus rfl); (focus exact A8))
  | exact True.intro | refine AJ ?_ | refine two ?_ ?_ | refine AG fun c_ => ?_
  | (refine imp fun hc => ?_) <;> try exact cx1 hc
  | refine all fun v_ => ?_)
 obtain ⟨q1, rfl⟩ : ∃ x, x = v_ := ⟨v_, rfl⟩
 repeat' (first
  | refine cag Ea (ihx q1 _ (Nat.le_of_eq (l1 ⟨3 + pk (tk raw a).kind 5 - 2, 0⟩))) ?_
  | exact True.intro | refine AJ ?_ | refine two ?_ ?_ | refine AG fun c_ => ?_
  | (refine imp fun hc => ?_) <;> try exact cx1 hc
  | refine all fun v_ => ?_)
 obtain ⟨q2, rfl⟩ : ∃ x, x = v_ := ⟨v_, rfl⟩
 repeat' (first
  | refine cag Ea (ihy q2 _ (Nat.le_of_eq (l2 ⟨3 + pk (tk raw a).kind 5 - 2, 0⟩))) ?_
  | exact True.intro | refine AJ ?_ | refine two ?_ ?_ | refine AG fun c_ => ?_
  | (refine imp fun hc => ?_) <;> try exact cx1 hc
  | refine all fun v_ => ?_)
 refine AO (VS.take (hc := [.cells bg 122 [.d (AN raw), .int ((a + 1 + x.length + y.length : Nat) : Int), .int vars, .int props, .int (t), .val v_.v], AF v_.v 53 2 Fo.cells (out ++ [⟨3 + pk (tk raw a).kind 5 - 2, 0⟩] ++ x ++ y)]) (by exact AB) (Env.le_refl _)) ?_
 exact ⟨v_, rfl, by rw [WM, Vm a ⟨3 + pk (tk raw a).kind 5 - 2, 0⟩]⟩
theorem number (hr : Bd raw) (hv : 0 < vars ∧ vars ≤ 1000) (t : Int) : ∀ (d a : Nat) (q : Sl) (out : List Fo), a + 2 ^ (d + 1) ≤ 400 → out.length + 2 ^ (d + 1) ≤ 2000 → GrT 86 G bg raw vars props t ((d : Int)) (a) q out (BZ raw vars d a) t
 | 0, a, q, out, ha, ho => Uj G bg raw vars props hr hv t 0 a q out (by omega) (by omega) ((GC raw 0 a).2.2 rfl)
 | d + 1, a, q, out, ha, ho => by
   have e : 2 ^ (d + 1 + 1) = 2 * 2 ^ (d + 1) := by rw [Nat.pow_succ]; omega
   have hp : 0 < 2 ^ (d + 1) := Nat.two_pow_pos (d + 1)
   have hx := HE raw vars d (a + 1)
   have hc : ((d + 1 : Nat) : Int) - 1 = (d : Int) := by omega
   by_cases hk : Dy raw (d + 1) a < 2
   · rw [BZ, if_pos hk]
     exact Uj G bg raw vars props hr hv t (d + 1) a q out (by omega) (by omega) hk
   · rw [BZ, if_neg hk]
     refine bI G bg raw vars props hr hv t d a (by have := @Nat.lt_two_pow_self d; omega) _ _ q out (by omega) (by omega) (by omega) (fun q' out' ho' => ?_) (fun q' out' ho' => ?_)
     · rw [hc]
       exact number hr hv t d (a + 1) q' out' (by omega) (by omega)
     · rw [hc]
       exact number hr hv t d _ q' out' (by omega) (by omega)
end

theorem OV : Cal Tryz.prog 104 := Cal.of Tryz.func104 (by kernel_rfl) (by kernel_rfl)
theorem NP : Cal Tryz.prog 142 := Cal.of Tryz.func142 (by kernel_rfl) (by kernel_rfl)
abbrev gnA (g : Gn) : AV := .agg [.d (AN g.spots), .int g.init, .d (BJ g.next), .d (Af g.sets), .int g.many]
theorem Lf (g : Gn) : grA g.gr = gnA g := by
 unfold grA gnA Gn.gr
 rw [Fw, ZT]

abbrev iD (bs bt bv : Nat) (n : Nat) (p : List Bool × List Nat) (q : Sl) : H := [.cells bs 136 [.val (.slice (some ⟨bv, 0, none⟩) n n)], .cells bv 4 (p.1.map AV.bool), .cells bt 43 [.val q.v], AF q.v 3 1 Po p.2]
theorem visit (G : List (Nat × List D)) (bs bt bv n i : Nat) (p : List Bool × List Nat) (q : Sl) (hn : p.1.length = n) (hi : i < n) (hl : n ≤ 20000) (hp : p.2.length ≤ 100000) :
 AC Tryz.prog G 142 [.int i, .val (.pointer (some ⟨bs, 0, none⟩)), .val (.pointer (some ⟨bt, 0, none⟩))] (iD bs bt bv n p q) fun r h => ∃ q' : Sl, r = .ret (.tup []) ∧ h = iD bs bt bv n (Bh p i) q' := by
 refine Dd (ts := []) Tryz.f142.ntmps Tryz.func142 rfl rfl rfl (by simp [Tryz.ntmps142]) fun W I => ?_
 have hb := L6 p.1 i (by omega)
 by_cases h : p.1[i]'(by omega) = true
 · have e : Bh p i = p := by rw [Bh, hb, if_pos h]
   rw [e]
   repeat' (first
    | exact True.intro | refine AM ?_ | refine two ?_ ?_
    | (refine imp fun hc => ?_) <;> try exact cx hc
    | refine all fun v_ => ?_)
   · exact rq0 rfl ⟨_, rfl, rfl⟩
   · rw [h] at hc; cases hc
 · have e : Bh p i = (p.1.set i true, p.2 ++ [i]) := by rw [Bh, hb, if_neg h]
   rw [e]
   repeat' (first
    | exact True.intro | refine AM ?_ | refine two ?_ ?_
    | (refine imp fun hc => ?_) <;> try exact cx hc
    | refine all fun v_ => ?_)
   exact rq0 rfl ⟨_, rfl, rfl⟩
theorem Mx : ∀ n : Nat, Gv (List.replicate n false) = n
 | 0 => rfl
 | n + 1 => by rw [List.replicate_succ, Gv, Mx n]; simp [Nat.add_comm]
theorem W9 {α : Type} (r : List α) (v : α) (h : ((((r ++ [v]).length : Nat) : Int) - 1).toNat < (r ++ [v]).length) : (r ++ [v])[((((r ++ [v]).length : Nat) : Int) - 1).toNat] = v := by
 have e : ((((r ++ [v]).length : Nat) : Int) - 1).toNat = r.length := by simp
 simp [e]
theorem Sy {α : Type} (r : List α) (v : α) : (r ++ [v]).take ((((r ++ [v]).length : Nat) : Int) - 1).toNat = r := by
 have e : ((((r ++ [v]).length : Nat) : Int) - 1).toNat = r.length := by simp
 rw [e, List.take_left]
theorem XN (G : List (Nat × List D)) (g : Gr) : ACr Tryz.prog G 104 [grA g] (.tup [.d (Bv (EY g).1), .int (EY g).2]) := by
 refine AK (ts := [2, 3]) Tryz.f104.ntmps Tryz.func104 rfl rfl rfl (by simp [Tryz.ntmps104]) fun W I => ?_
 have E := Zy G g
 by_cases hk : ¬ okG g
 · have e : KC g = 9 := if_neg hk
   rw [e] at E
   repeat' (first
    | refine ca GM (E) ?_
    | exact True.intro | refine AM ?_ | refine two ?_ ?_
    | (refine imp fun hc => ?_) <;> try exact cx hc
    | refine all fun v_ => ?_)
   refine AO (VS.trans (VS.drop (List.nil_sublist _)) (Ft (t := 2) 1 1 rfl)) ?_
   ((with_reducible apply rq2); rfl; rfl; rfl)
   exact AD (by rw [Om hk]; rfl)
 obtain ⟨g, rfl, hok⟩ := Ix (Decidable.not_not.1 hk)
 rw [J1 (Gn.ok_gr hok)] at E
 rw [Lf] at E ⊢
 clear hk
 have hs := hok.size
 have hi0 := hok.init
 have hnl := hok.next
 repeat' (first
  | refine ca GM (E) ?_
  | exact True.intro | refine AM ?_ | refine two ?_ ?_
  | (refine imp fun hc => ?_) <;> try exact cx hc
  | refine all fun v_ => ?_)
 rename_i bg bv bs
 rename Nat => bt
 refine FQ (E := 3) (sz := 1) Po ?_
 refine AL (X := (List Bool × List Nat) × Sl × Nat) (fun y => [(1, .val (.pointer (some ⟨bg, 0, none⟩))), (5, .val (.pointer (some ⟨bs, 0, none⟩))), (6, .val (.pointer (some ⟨bt, 0, none⟩))), (7, .val (.func (.func 142) #[] #[.pointer (some ⟨bs, 0, none⟩), .pointer (some ⟨bt, 0, none⟩)])), (23, .int g.init), (24, .int y.2.2)]) (fun y => [.cells bs 136 [.val (.slice (some ⟨bv, 0, none⟩) g.spots.length g.spots.length)], .cells bv 4 (y.1.1.map AV.bool), .cells bt 43 [.val y.2.1.v], AF y.2.1.v 3 1 Po y.1.2, .cells bg 99 [.d (AN g.spots), .int g.init, .d (BJ g.next), .d (Af g.sets), .int g.many]]) (fun y => RI g none y.2.2 y.1 ∧ y.2.2 ≤ g.init ∧ muR y.1 ≤ 2 * g.spots.length) (fun y => g.init - y.2.2) ((List.replicate g.spots.length false, []), Sl.nil, 0) ⟨RI.start g, Nat.zero_le _, ?_⟩ (VS.take (by exact AS) ?_) ?_
 · simp [muR, Mx]
 · exact leD
 rintro ⟨p, q, i⟩ ⟨h1, h2, h3⟩
 dsimp only at h1 h2 h3 ⊢
 have hp := h1.len
 have hp2 : p.2.length ≤ 100000 := by unfold muR at h3; omega
 by_cases hi : i < g.init
 · have hin : i < g.spots.length := by omega
   repeat' (first
    | refine cgv NP (visit _ bs bt bv _ i p q hp hin hs hp2) ?_
    | exact True.intro | refine AM ?_ | refine two ?_ ?_
    | (refine imp fun hc => ?_) <;> try exact cx hc
    | refine all fun v_ => ?_)
   have hm := Rc (p := p) (i := i) (by omega)
   refine ⟨(Bh p i, v_, i + 1), ⟨h1.initStep hok hi, by dsimp only; omega, by dsimp only; omega⟩, by dsimp only; omega, VS.of_le ?_⟩
   exact leD
 obtain rfl : i = g.init := by omega
 repeat' (first
  | exact True.intro | refine AM ?_ | refine two ?_ ?_
  | (refine imp fun hc => ?_) <;> try exact cx hc
  | refine all fun v_ => ?_)
 refine AL (X := (List Bool × List Nat) × Sl) (fun y => [(1, .val (.pointer (some ⟨bg, 0, none⟩))), (5, .val (.pointer (some ⟨bs, 0, none⟩))), (6, .val (.pointer (some ⟨bt, 0, none⟩))), (7, .val (.func (.func 142) #[] #[.pointer (some ⟨bs, 0, none⟩), .pointer (some ⟨bt, 0, none⟩)]))]) (fun y => [.cells bs 136 [.val (.slice (some ⟨bv, 0, none⟩) g.spots.length g.spots.length)], .cells bv 4 (y.1.1.map AV.bool), .cells bt 43 [.val y.2.v], AF y.2.v 3 1 Po y.1.2, .cells bg 99 [.d (AN g.spots), .int g.init, .d (BJ g.next), .d (Af g.sets), .int g.many]]) (fun y => RI g none g.init y.1 ∧ muR y.1 ≤ 2 * g.spots.length) (fun y => muR y.1) (p, q) ⟨h1, h3⟩ (VS.of_le ?_) ?_
 · exact leD
 clear h1 h3 hp hp2 hi h2
 rintro ⟨⟨s, td⟩, q⟩ ⟨h1, h3⟩
 dsimp only at h1 h3 ⊢
 have hp := h1.len
 have hp2 : td.length ≤ 100000 := by unfold muR at h3; dsimp only at h3; omega
 rcases List.eq_nil_or_concat td with e | ⟨r, v, e⟩
 · subst e
   repeat' (first
    | exact True.intro | refine AM ?_ | refine two ?_ ?_
    | (refine imp fun hc => ?_) <;> try exact cx hc
    | refine all fun v_ => ?_)
   refine AO (VS.trans (VS.drop (h' := [.cells bv 4 (s.map AV.bool)]) (by exact H6)) (vfz (t := 2) (f := N8) (h1 := []) 1 1 rfl rfl rfl (Es s) hp (fun _ => rfl) (by omega) (by omega))) ?_
   ((with_reducible apply rq2); rfl; rfl; rfl)
   exact AD (by rw [JJ hok, ← h1.all rfl])
 · rw [List.concat_eq_append] at e
   subst e
   have hv := h1.todo v (by simp)
   have hvn : v < g.next.length := by omega
   have hlr : ((r ++ [v]).length : Int) = r.length + 1 := by simp
   repeat' (first
    | exact True.intro | refine AM ?_ | refine two ?_ ?_
    | (refine imp fun hc => ?_) <;> try exact cx hc
    | refine all fun v_ => ?_)
   simp only [W9, Sy]
   repeat' (first
    | exact True.intro | refine AM ?_ | refine two ?_ ?_
    | (refine imp fun hc => ?_) <;> try exact cx hc
    | refine all fun v_ => ?_)
   have h1' := h1.pop (v := v) (r := r) rfl
   have hm1 : muR (s, r) < muR (s, r ++ [v]) := by simp [muR]
   have hnx := g.nx_get v hvn
   refine AL (X := (List Bool × List Nat) × Sl × Nat) (fun y => [(1, .val (.pointer (some ⟨bg, 0, none⟩))), (5, .val (.pointer (some ⟨bs, 0, none⟩))), (6, .val (.pointer (some ⟨bt, 0, none⟩))), (7, .val (.func (.func 142) #[] #[.pointer (some ⟨bs, 0, none⟩), .pointer (some ⟨bt, 0, none⟩)])), (49, .d (Af g.next[v])), (50, .int g.next[v].length), (51, .int y.2.2)]) (fun y => [.cells bs 136 [.val (.slice (some ⟨bv, 0, none⟩) g.spots.length g.spots.length)], .cells bv 4 (y.1.1.map AV.bool), .cells bt 43 [.val y.2.1.v], AF y.2.1.v 3 1 Po y.1.2, .cells bg 99 [.d (AN g.spots), .int g.init, .d (BJ g.next), .d (Af g.sets), .int g.many]]) (fun y => RI g (some (v, y.2.2)) g.init y.1 ∧ bi y.1.1 v = true ∧ y.2.2 ≤ g.next[v].length ∧ muR y.1 ≤ muR (s, r)) (fun y => g.next[v].length - y.2.2) ((s, r), v_, 0) ⟨h1', hv.2, Nat.zero_le _, Nat.le_refl _⟩ (VS.of_le ?_) ?_
   · exact leD
   rintro ⟨p, q, j⟩ ⟨k1, k2, k3, k4⟩
   dsimp only at k1 k2 k3 k4 ⊢
   refine EC (t := 49) rfl fun hlj => ?_
   have hpl := k1.len
   have hp3 : p.2.length ≤ 100000 := by
    have h5 : muR p ≤ 2 * g.spots.length := by omega
    unfold muR at h5; omega
   by_cases hj : j < g.next[v].length
   · have hj' : j < (g.nx v).length := by rw [hnx]; exact hj
     have hke : (g.nx v)[j] = g.next[v][j] := by simp only [hnx]
     have hkn := g.nx_lt hok v _ (List.getElem_mem hj')
     have ke := k1.edge hok k2 hj'
     rw [hke] at hkn ke
     repeat' (first
      | refine cgv NP (visit _ bs bt bv _ g.next[v][j] p q hpl hkn hs hp3) ?_
      | exact True.intro | refine AM ?_ | refine two ?_ ?_
      | (refine imp fun hc => ?_) <;> try exact cx hc
      | refine all fun v_ => ?_)
     have hm := Rc (p := p) (i := g.next[v][j]) (by omega)
     refine ⟨(Bh p g.next[v][j], v_, j + 1), ⟨ke, FG (by omega) k2, by dsimp only; omega, by dsimp only; omega⟩, by dsimp only; omega, VS.of_le ?_⟩
     exact leD
   · have ej : j = (g.nx v).length := by rw [hnx]; omega
     rw [ej] at k1
     repeat' (first
      | exact True.intro | refine AM ?_ | refine two ?_ ?_
      | (refine imp fun hc => ?_) <;> try exact cx hc
      | refine all fun v_ => ?_)
     refine ⟨(p, q), ⟨k1.done, by dsimp only; omega⟩, by dsimp only; omega, VS.of_le ?_⟩
     exact leD
end Go.Proofs.YtajnpfgelpkijaaGreatDoor
