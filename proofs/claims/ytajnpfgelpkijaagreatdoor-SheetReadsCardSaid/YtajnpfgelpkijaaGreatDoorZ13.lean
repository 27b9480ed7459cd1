/- A bundle of this claim's own texts: R3 Q5 R6. -/
import Derived.Shelf.Strconv.Itoa3
import Derived.Shelf.Strings.SplitShaped
import Derived.Shelf.Strings.Prefix
import Derived.Shelf.Small.Strs
import Derived.Shelf.Small.Wraps
import Derived.Shelf.Strconv.AtoiAll
import Derived.Test.YtajnpfgelpkijaaGreatDoorProg
import Derived.Test.YtajnpfgelpkijaaGreatDoorZ2
import Derived.Test.YtajnpfgelpkijaaGreatDoorZ11
import Derived.Test.YtajnpfgelpkijaaGreatDoorZ12
set_option linter.unusedVariables false
set_option linter.unusedSimpArgs false
set_option maxRecDepth 100000
set_option maxHeartbeats 4000000
namespace Go.Proofs.YtajnpfgelpkijaaGreatDoor
open Go Go.Av Go.Sp
theorem cal_words : Cal Tryz.prog 31 := Cal.of Tryz.func31 (by kernel_rfl) (by kernel_rfl)
theorem WriteStringS (G : List (Nat × List D)) (b : Nat) (q : Sl) (xs l : List UInt8) (hb : xs.length + l.length ≤ 140737488355328) : AC Tryz.prog G 28 [.val (selfP b), .val (.string (tx l))] [.cells b 86 [.val (selfP b), .val q.v], rowE q.v 5 1 byteC xs] fun e h => ∃ q' : Sl, e = .ret (.tup [.int l.length, .val .nilIface]) ∧ h = [.cells b 86 [.val (selfP b), .val q'.v], rowE q'.v 5 1 byteC (xs ++ l)] := WriteString G b true q xs l hb
theorem WriteByteS (G : List (Nat × List D)) (b : Nat) (q : Sl) (xs : List UInt8) (c : UInt8) (hb : xs.length ≤ 140737488355327) : AC Tryz.prog G 30 [.val (selfP b), AV.byte c] [.cells b 86 [.val (selfP b), .val q.v], rowE q.v 5 1 byteC xs] fun e h => ∃ q' : Sl, e = .ret (.val .nilIface) ∧ h = [.cells b 86 [.val (selfP b), .val q'.v], rowE q'.v 5 1 byteC (xs ++ [c])] := WriteByte G b true q xs c hb
theorem StringS (G : List (Nat × List D)) (b : Nat) (q : Sl) (xs : List UInt8) (h0 : 0 < xs.length) (hb : xs.length ≤ 140737488355328) : AC Tryz.prog G 32 [.val (selfP b)] [.cells b 86 [.val (selfP b), .val q.v], rowE q.v 5 1 byteC xs] fun e h => ∃ _ : Unit, e = .ret (.val (.string (tx xs))) ∧ h = [] := String G b true q xs h0 hb
theorem marksT_at {k : Int} (h0 : 0 ≤ k) (h1 : k ≤ 18) : marksT[0 + k.toNat * 1]? = some (.s (tx (markL k))) := by
 have : k = 0 ∨ k = 1 ∨ k = 2 ∨ k = 3 ∨ k = 4 ∨ k = 5 ∨ k = 6 ∨ k = 7 ∨ k = 8 ∨ k = 9 ∨ k = 10 ∨ k = 11 ∨ k = 12 ∨ k = 13 ∨ k = 14 ∨ k = 15 ∨ k = 16 ∨ k = 17 ∨ k = 18 := by omega
 rcases this with h | h | h | h | h | h | h | h | h | h | h | h | h | h | h | h | h | h | h <;> subst h <;> rfl
theorem words (m : Md) (l : List Fo) (np : Int) (hn : ∀ v ∈ m.vars, nameP v.name) (h : ∀ o ∈ l, OpP m.vars.length np o) (hp : np ≤ 6) (h60 : l.length ≤ 60) (h00 : 0 < l.length) : ACr Tryz.prog GP 31 [mdA m, .d (opsD l)] (.val (.string (tx (termL m.vars l ++ [10])))) := by
 refine AC_ofV (ts := [4]) Tryz.f31.ntmps Tryz.func31 rfl rfl rfl (by simp [Tryz.ntmps31]) fun W I => ?_
 refine jfact (t := 1) rfl fun hfact => ?_
 refine jrow (E := 5) (sz := 1) byteC ?_
 repeat' (first
  | refine ca cal_opWord (opWord G m l[i] np hn (h _ (List.getElem_mem hi)) hp) ?_
  | exact True.intro | refine stpA ?_ | refine two ?_ ?_
  | (refine imp fun hc => ?_) <;> try exact cx hc
  | refine all fun v_ => ?_)
 obtain ⟨b, rfl⟩ : ∃ x, x = v_ := ⟨v_, rfl⟩
 obtain ⟨bm, rfl⟩ : ∃ x, x = v_ := ⟨v_, rfl⟩
 refine J_loopV (X := Nat × Bool × Sl) (fun y => [(2, .val (.pointer (some ⟨bm, 0, none⟩))), (5, .val (selfP b)), (8, .d (opsD l)), (9, .int l.length), (10, .int y.1)]) (fun y => [.cells b 86 [.val (newP b y.2.1), .val y.2.2.v], rowE y.2.2.v 5 1 byteC (termL m.vars (l.take y.1)), .cells bm 25 [.d (varsD m.vars), .d (rulesD m.rules)]]) (fun y => y.1 ≤ l.length ∧ (y.2.1 = true ∨ y.1 = 0)) (fun y => l.length - y.1) (0, false, Sl.nil) ⟨Nat.zero_le _, .inr rfl⟩ (VS.take (by exact takedD) ?_) ?_
 · exact leD
 rintro ⟨i, u, q⟩ ⟨hi0, hu⟩
 dsimp only at hi0 hu ⊢
 by_cases hi : i < l.length
 · have e := termL_at m.vars l i hi
   have hl := term_len hn hp (l.take i) fun o ho => h o (List.mem_of_mem_take ho)
   have hl2 : (l.take i).length = i := by rw [List.length_take]; omega
   have hw := word_len hn (h _ (List.getElem_mem hi)) hp
   have ho := h _ (List.getElem_mem hi)
   rw [hl2] at hl
   generalize termL m.vars (l.take i) = s at e hl ⊢
   have e' : termL m.vars (l.take (i + 1)) = (s ++ [32]) ++ wordL m.vars l[i] := by rw [e]; simp
   clear e
   have hb1 : s.length ≤ 140737488355327 := by omega
   have hb2 : (s ++ [32]).length + (wordL m.vars l[i]).length ≤ 140737488355328 := by rw [List.length_append]; simp; omega
   have ho := h _ (List.getElem_mem hi)
   have a1 := ho.lo
   have a2 := ho.hi
   unfold wordL at hw hb2 e'
   by_cases h1 : l[i].kind = 1
   · have hv := ho.num h1
     have hv1 : -9223372036854775808 ≤ l[i].val := by omega
     have hv2 : l[i].val ≤ 9223372036854775807 := by omega
     rw [if_pos h1] at hw hb2 e'
     repeat' (first
      | refine cag cal_WriteByte (WriteByte GP b u q s 32 hb1) ?_
      | refine cag cal_WriteString (WriteStringS GP b v_ (s ++ [32]) (Lib.itoa l[i].val) hb2) ?_
      | refine ca cal_Itoa (Itoa l[i].val hv1 hv2) ?_
      | exact True.intro | refine stpA ?_ | refine two ?_ ?_
      | (refine imp fun hc => ?_) <;> try exact cx hc
      | refine all fun v_ => ?_)
     refine ⟨(i + 1, true, v_), ⟨by dsimp only; omega, .inl rfl⟩, by dsimp only; omega, VS.take (by dsimp only; rw [e']; exact takedD) ?_⟩
     exact leD
   rw [if_neg h1] at hw hb2 e'
   by_cases h2 : l[i].kind = 2
   · have hv := ho.var h2
     have hlt : l[i].val.toNat < m.vars.length := by omega
     rw [if_pos h2, List.getElem?_eq_getElem hlt] at hw hb2 e'
     repeat' (first
      | refine cag cal_WriteByte (WriteByte GP b u q s 32 hb1) ?_
      | refine cag cal_WriteString (WriteStringS GP b v_ (s ++ [32]) m.vars[l[i].val.toNat].name.data.toList hb2) ?_
      | exact True.intro | refine stpA ?_ | refine two ?_ ?_
      | (refine imp fun hc => ?_) <;> try exact cx hc
      | refine all fun v_ => ?_)
     refine ⟨(i + 1, true, v_), ⟨by dsimp only; omega, .inl rfl⟩, by dsimp only; omega, VS.take (by dsimp only; rw [e']; exact takedD) ?_⟩
     exact leD
   rw [if_neg h2] at hw hb2 e'
   by_cases h13 : l[i].kind = 13
   · have hv := ho.prop h13
     have hv1 : -9223372036854775808 ≤ l[i].val := by omega
     have hv2 : l[i].val ≤ 9223372036854775807 := by omega
     rw [if_pos h13] at hw hb2 e'
     rw [show (80 :: Lib.itoa l[i].val : List UInt8) = [80] ++ Lib.itoa l[i].val from rfl] at hw hb2 e'
     have hw2 : (Lib.itoa l[i].val).length ≤ 12 := by rw [List.length_append] at hw; omega
     repeat' (first
      | refine cag cal_WriteByte (WriteByte GP b u q s 32 hb1) ?_
      | refine cag cal_WriteString (WriteStringS GP b v_ (s ++ [32]) ([80] ++ Lib.itoa l[i].val) hb2) ?_
      | refine ca cal_Itoa (Itoa l[i].val hv1 hv2) ?_
      | exact True.intro | refine stpA ?_ | refine two ?_ ?_
      | (refine imp fun hc => ?_) <;> try exact cx hc
      | refine all fun v_ => ?_)
     refine ⟨(i + 1, true, v_), ⟨by dsimp only; omega, .inl rfl⟩, by dsimp only; omega, VS.take (by dsimp only; rw [e']; exact takedD) ?_⟩
     exact leD
   rw [if_neg h13] at hw hb2 e'
   have hmk := marksT_at (k := l[i].kind) (by omega) (by omega)
   repeat' (first
    | refine cag cal_WriteByte (WriteByte GP b u q s 32 hb1) ?_
    | refine cag cal_WriteString (WriteStringS GP b v_ (s ++ [32]) (markL l[i].kind) hb2) ?_
    | ((with_reducible apply jp); (focus ((with_reducible apply (pu_load_glob (c := .s (tx (markL l[i].kind))))); rfl; rfl; exact GP_marks; exact hmk)); (focus rfl))
    | exact True.intro | refine stpA ?_ | refine two ?_ ?_
    | (refine imp fun hc => ?_) <;> try exact cx hc
    | refine all fun v_ => ?_)
   refine ⟨(i + 1, true, v_), ⟨by dsimp only; omega, .inl rfl⟩, by dsimp only; omega, VS.take (by dsimp only; rw [e']; exact takedD) ?_⟩
   exact leD
 obtain rfl : i = l.length := by omega
 rw [List.take_length]
 have hl := term_len hn hp l h
 have hpos : 0 < (termL m.vars l).length := by
  unfold termL
  cases l with
  | nil => cases h00
  | cons o l => simp
 generalize termL m.vars l = s at hl hpos ⊢
 have hb3 : s.length ≤ 140737488355328 := by omega
 repeat' (first
  | refine cag cal_String (String GP b u q s hpos hb3) ?_
  | exact True.intro | refine stpA ?_ | refine two ?_ ?_
  | (refine imp fun hc => ?_) <;> try exact cx hc
  | refine all fun v_ => ?_)
 refine retv (VS.drop (List.nil_sublist _)) ?_
 ((with_reducible apply rq1); rfl; rfl)
 exact ret_eq rfl
end Go.Proofs.YtajnpfgelpkijaaGreatDoor
namespace Go.Proofs
open Go.Shelf
def Tryz.laysM146_ren : Go.Shelf.Ren := ⟨fun | 146 => 14 | 221 => 41 | 268 => 75 | 138 => 76 | 143 => 77 | 195 => 116 | 197 => 117 | 218 => 118 | 219 => 119 | 260 => 148 | 217 => 71 | 225 => 149 | 224 => 150 | 267 => 151 | 266 => 109 | 314 => 179 | n => n, fun | 9 => 9 | 31 => 62 | 3 => 3 | 4 => 4 | 0 => 0 | 105 => 188 | 21 => 21 | 5 => 5 | 46 => 219 | 119 => 246 | 139 => 249 | 138 => 248 | 146 => 250 | 51 => 234 | n => n, fun | 1 => 1 | 3 => 5 | 4 => 6 | n => n⟩
theorem Tryz.laysM146 : Go.Proofs.LaysM.n146 Tryz.prog Tryz.laysM146_ren := {
 mixed := by kernel_rfl
 f138 := Tryz.func76.trans (congrArg some (by kernel_rfl))
 f143 := Tryz.func77.trans (congrArg some (by kernel_rfl))
 f146 := Tryz.func14.trans (congrArg some (by kernel_rfl))
 f195 := Tryz.func116.trans (congrArg some (by kernel_rfl))
 f197 := Tryz.func117.trans (congrArg some (by kernel_rfl))
 f217 := Tryz.func71.trans (congrArg some (by kernel_rfl))
 f218 := Tryz.func118.trans (congrArg some (by kernel_rfl))
 f219 := Tryz.func119.trans (congrArg some (by kernel_rfl))
 f221 := Tryz.func41.trans (congrArg some (by kernel_rfl))
 f224 := Tryz.func150.trans (congrArg some (by kernel_rfl))
 f225 := Tryz.func149.trans (congrArg some (by kernel_rfl))
 f260 := Tryz.func148.trans (congrArg some (by kernel_rfl))
 f266 := Tryz.func109.trans (congrArg some (by kernel_rfl))
 f267 := Tryz.func151.trans (congrArg some (by kernel_rfl))
 f268 := Tryz.func75.trans (congrArg some (by kernel_rfl))
 f314 := Tryz.func179.trans (congrArg some (by kernel_rfl))
 t0 := Tryz.underlying0
 a0 := Tryz.isAgg0
 z0 := Tryz.sizeOf0
 v0 := Tryz.zeroValue0
 t3 := Tryz.underlying3
 a3 := Tryz.isAgg3
 z3 := Tryz.sizeOf3
 v3 := Tryz.zeroValue3
 t4 := Tryz.underlying4
 a4 := Tryz.isAgg4
 z4 := Tryz.sizeOf4
 v4 := Tryz.zeroValue4
 t5 := Tryz.underlying5
 a5 := Tryz.isAgg5
 z5 := Tryz.sizeOf5
 v5 := Tryz.zeroValue5
 t9 := Tryz.underlying9
 a9 := Tryz.isAgg9
 z9 := Tryz.sizeOf9
 v9 := Tryz.zeroValue9
 t21 := Tryz.underlying21
 a21 := Tryz.isAgg21
 z21 := Tryz.sizeOf21
 v21 := Tryz.zeroValue21
 t31 := Tryz.underlying62
 a31 := Tryz.isAgg62
 z31 := Tryz.sizeOf62
 v31 := Tryz.zeroValue62
 t46 := Tryz.underlying219
 a46 := Tryz.isAgg219
 z46 := Tryz.sizeOf219
 v46 := Tryz.zeroValue219
 t51 := Tryz.underlying234
 a51 := Tryz.isAgg234
 z51 := Tryz.sizeOf234
 v51 := Tryz.zeroValue234
 t105 := Tryz.underlying188
 a105 := Tryz.isAgg188
 z105 := Tryz.sizeOf188
 v105 := Tryz.zeroValue188
 t119 := Tryz.underlying246
 a119 := Tryz.isAgg246
 z119 := Tryz.sizeOf246
 t138 := Tryz.underlying248
 a138 := Tryz.isAgg248
 z138 := Tryz.sizeOf248
 v138 := Tryz.zeroValue248
 t139 := Tryz.underlying249
 a139 := Tryz.isAgg249
 z139 := Tryz.sizeOf249
 v139 := Tryz.zeroValue249
 t146 := Tryz.underlying250
 a146 := Tryz.isAgg250
 z146 := Tryz.sizeOf250
 v146 := Tryz.zeroValue250
 g1 := by kernel_rfl
 g3 := by kernel_rfl
 g4 := by kernel_rfl
 i0 := by kernel_rfl
 i3 := by kernel_rfl
 i4 := by kernel_rfl
 i5 := by kernel_rfl
 i9 := by kernel_rfl
 i21 := by kernel_rfl
 i31 := by kernel_rfl
 i46 := by kernel_rfl
 i51 := by kernel_rfl
 i105 := by kernel_rfl
 i138 := by kernel_rfl
 i139 := by kernel_rfl
 i146 := by kernel_rfl
 m1 := by kernel_rfl
 s1_3 := fun w h => Go.Proofs.cell_of_shapedOpen_int (zero := #[.int .i64 0]) (t := 3) h (of_decide_eq_true (by kernel_rfl)) (by kernel_rfl) rfl (by kernel_rfl) (by kernel_rfl) Tryz.underlying3
 m3 := by kernel_rfl
 m4 := by kernel_rfl }
def Tryz.lays102_ren : Go.Shelf.Ren := ⟨fun | 102 => 15 | 209 => 42 | 207 => 78 | n => n, fun | 9 => 9 | 4 => 4 | 3 => 3 | n => n, fun | n => n⟩
theorem Tryz.lays102 : Go.Proofs.Lays.n102 Tryz.prog Tryz.lays102_ren := {
 mixed := by kernel_rfl
 f102 := Tryz.func15.trans (congrArg some (by kernel_rfl))
 f207 := Tryz.func78.trans (congrArg some (by kernel_rfl))
 f209 := Tryz.func42.trans (congrArg some (by kernel_rfl))
 t3 := Tryz.underlying3
 a3 := Tryz.isAgg3
 z3 := Tryz.sizeOf3
 v3 := Tryz.zeroValue3
 t4 := Tryz.underlying4
 a4 := Tryz.isAgg4
 z4 := Tryz.sizeOf4
 v4 := Tryz.zeroValue4
 t9 := Tryz.underlying9
 a9 := Tryz.isAgg9
 z9 := Tryz.sizeOf9
 v9 := Tryz.zeroValue9 }
def Tryz.lays103_ren : Go.Shelf.Ren := ⟨fun | 103 => 115 | 210 => 147 | 206 => 178 | n => n, fun | 9 => 9 | 4 => 4 | 24 => 186 | 3 => 3 | n => n, fun | n => n⟩
theorem Tryz.lays103 : Go.Proofs.Lays.n103 Tryz.prog Tryz.lays103_ren := {
 mixed := by kernel_rfl
 f103 := Tryz.func115.trans (congrArg some (by kernel_rfl))
 f206 := Tryz.func178.trans (congrArg some (by kernel_rfl))
 f210 := Tryz.func147.trans (congrArg some (by kernel_rfl))
 t3 := Tryz.underlying3
 a3 := Tryz.isAgg3
 z3 := Tryz.sizeOf3
 v3 := Tryz.zeroValue3
 t4 := Tryz.underlying4
 a4 := Tryz.isAgg4
 z4 := Tryz.sizeOf4
 v4 := Tryz.zeroValue4
 t9 := Tryz.underlying9
 a9 := Tryz.isAgg9
 z9 := Tryz.sizeOf9
 v9 := Tryz.zeroValue9
 t24 := Tryz.underlying186
 a24 := Tryz.isAgg186
 z24 := Tryz.sizeOf186
 v24 := Tryz.zeroValue186 }
def Tryz.lays137_ren : Go.Shelf.Ren := ⟨fun | 137 => 37 | 217 => 71 | 266 => 109 | n => n, fun | 9 => 9 | 5 => 5 | 3 => 3 | n => n, fun | n => n⟩
theorem Tryz.lays137 : Go.Proofs.Lays.n137 Tryz.prog Tryz.lays137_ren := {
 mixed := by kernel_rfl
 f137 := Tryz.func37.trans (congrArg some (by kernel_rfl))
 f217 := Tryz.func71.trans (congrArg some (by kernel_rfl))
 f266 := Tryz.func109.trans (congrArg some (by kernel_rfl))
 t3 := Tryz.underlying3
 a3 := Tryz.isAgg3
 z3 := Tryz.sizeOf3
 v3 := Tryz.zeroValue3
 t5 := Tryz.underlying5
 a5 := Tryz.isAgg5
 z5 := Tryz.sizeOf5
 v5 := Tryz.zeroValue5
 t9 := Tryz.underlying9
 a9 := Tryz.isAgg9
 z9 := Tryz.sizeOf9
 v9 := Tryz.zeroValue9 }
def Tryz.laysC172_ren : Go.Shelf.Ren := ⟨fun | 172 => 38 | 244 => 72 | 245 => 73 | 247 => 110 | 279 => 111 | 280 => 112 | 281 => 113 | 282 => 114 | 287 => 144 | 316 => 145 | 171 => 29 | 205 => 146 | 321 => 176 | 322 => 177 | 243 => 55 | 246 => 95 | 283 => 129 | 284 => 130 | 285 => 131 | 286 => 132 | 129 => 161 | 317 => 160 | 318 => 162 | 319 => 163 | 320 => 164 | 337 => 182 | 338 => 183 | n => n, fun | 9 => 9 | 3 => 3 | 75 => 88 | 76 => 89 | 4 => 4 | 5 => 5 | 167 => 180 | 37 => 84 | 0 => 0 | 85 => 181 | 2 => 2 | 168 => 183 | 53 => 199 | 175 => 217 | 46 => 219 | 210 => 222 | 127 => 125 | 145 => 245 | 143 => 243 | 21 => 21 | 171 => 198 | 173 => 202 | 212 => 233 | 51 => 234 | 20 => 20 | 213 => 235 | 232 => 258 | 233 => 259 | 80 => 95 | n => n, fun | 15 => 2 | 16 => 3 | 17 => 4 | 18 => 8 | 19 => 9 | n => n⟩
theorem Tryz.laysC172 : Go.Proofs.LaysC.n172 Tryz.prog Tryz.laysC172_ren := {
 mixed := by kernel_rfl
 f129 := Tryz.func161.trans (congrArg some (by kernel_rfl))
 f171 := Tryz.func29.trans (congrArg some (by kernel_rfl))
 f172 := Tryz.func38.trans (congrArg some (by kernel_rfl))
 f205 := Tryz.func146.trans (congrArg some (by kernel_rfl))
 f243 := Tryz.func55.trans (congrArg some (by kernel_rfl))
 f244 := Tryz.func72.trans (congrArg some (by kernel_rfl))
 f245 := Tryz.func73.trans (congrArg some (by kernel_rfl))
 f246 := Tryz.func95.trans (congrArg some (by kernel_rfl))
 f247 := Tryz.func110.trans (congrArg some (by kernel_rfl))
 f279 := Tryz.func111.trans (congrArg some (by kernel_rfl))
 f280 := Tryz.func112.trans (congrArg some (by kernel_rfl))
 f281 := Tryz.func113.trans (congrArg some (by kernel_rfl))
 f282 := Tryz.func114.trans (congrArg some (by kernel_rfl))
 f283 := Tryz.func129.trans (congrArg some (by kernel_rfl))
 f284 := Tryz.func130.trans (congrArg some (by kernel_rfl))
 f285 := Tryz.func131.trans (congrArg some (by kernel_rfl))
 f286 := Tryz.func132.trans (congrArg some (by kernel_rfl))
 f287 := Tryz.func144.trans (congrArg some (by kernel_rfl))
 f316 := Tryz.func145.trans (congrArg some (by kernel_rfl))
 f317 := Tryz.func160.trans (congrArg some (by kernel_rfl))
 f318 := Tryz.func162.trans (congrArg some (by kernel_rfl))
 f319 := Tryz.func163.trans (congrArg some (by kernel_rfl))
 f320 := Tryz.func164.trans (congrArg some (by kernel_rfl))
 f321 := Tryz.func176.trans (congrArg some (by kernel_rfl))
 f322 := Tryz.func177.trans (congrArg some (by kernel_rfl))
 f337 := Tryz.func182.trans (congrArg some (by kernel_rfl))
 f338 := Tryz.func183.trans (congrArg some (by kernel_rfl))
 t0 := Tryz.underlying0
 a0 := Tryz.isAgg0
 z0 := Tryz.sizeOf0
 v0 := Tryz.zeroValue0
 t2 := Tryz.underlying2
 a2 := Tryz.isAgg2
 z2 := Tryz.sizeOf2
 v2 := Tryz.zeroValue2
 t3 := Tryz.underlying3
 a3 := Tryz.isAgg3
 z3 := Tryz.sizeOf3
 v3 := Tryz.zeroValue3
 t4 := Tryz.underlying4
 a4 := Tryz.isAgg4
 z4 := Tryz.sizeOf4
 v4 := Tryz.zeroValue4
 t5 := Tryz.underlying5
 a5 := Tryz.isAgg5
 z5 := Tryz.sizeOf5
 v5 := Tryz.zeroValue5
 t9 := Tryz.underlying9
 a9 := Tryz.isAgg9
 z9 := Tryz.sizeOf9
 v9 := Tryz.zeroValue9
 t20 := Tryz.underlying20
 a20 := Tryz.isAgg20
 z20 := Tryz.sizeOf20
 v20 := Tryz.zeroValue20
 t21 := Tryz.underlying21
 a21 := Tryz.isAgg21
 z21 := Tryz.sizeOf21
 v21 := Tryz.zeroValue21
 t37 := Tryz.underlying84
 a37 := Tryz.isAgg84
 z37 := Tryz.sizeOf84
 v37 := Tryz.zeroValue84
 t46 := Tryz.underlying219
 a46 := Tryz.isAgg219
 z46 := Tryz.sizeOf219
 v46 := Tryz.zeroValue219
 t51 := Tryz.underlying234
 a51 := Tryz.isAgg234
 z51 := Tryz.sizeOf234
 v51 := Tryz.zeroValue234
 t53 := Tryz.underlying199
 a53 := Tryz.isAgg199
 z53 := Tryz.sizeOf199
 v53 := Tryz.zeroValue199
 t75 := Tryz.underlying88
 a75 := Tryz.isAgg88
 z75 := Tryz.sizeOf88
 v75 := Tryz.zeroValue88
 t76 := Tryz.underlying89
 a76 := Tryz.isAgg89
 z76 := Tryz.sizeOf89
 v76 := Tryz.zeroValue89
 t85 := Tryz.underlying181
 a85 := Tryz.isAgg181
 z85 := Tryz.sizeOf181
 v85 := Tryz.zeroValue181
 t127 := Tryz.underlying125
 a127 := Tryz.isAgg125
 z127 := Tryz.sizeOf125
 v127 := Tryz.zeroValue125
 t143 := Tryz.underlying243
 a143 := Tryz.isAgg243
 z143 := Tryz.sizeOf243
 v143 := Tryz.zeroValue243
 t145 := Tryz.underlying245
 a145 := Tryz.isAgg245
 z145 := Tryz.sizeOf245
 v145 := Tryz.zeroValue245
 t167 := Tryz.underlying180
 a167 := Tryz.isAgg180
 z167 := Tryz.sizeOf180
 v167 := Tryz.zeroValue180
 t168 := Tryz.underlying183
 a168 := Tryz.isAgg183
 z168 := Tryz.sizeOf183
 v168 := Tryz.zeroValue183
 t171 := Tryz.underlying198
 a171 := Tryz.isAgg198
 z171 := Tryz.sizeOf198
 v171 := Tryz.zeroValue198
 t173 := Tryz.underlying202
 a173 := Tryz.isAgg202
 z173 := Tryz.sizeOf202
 v173 := Tryz.zeroValue202
 t175 := Tryz.underlying217
 a175 := Tryz.isAgg217
 z175 := Tryz.sizeOf217
 v175 := Tryz.zeroValue217
 t210 := Tryz.underlying222
 a210 := Tryz.isAgg222
 z210 := Tryz.sizeOf222
 v210 := Tryz.zeroValue222
 t212 := Tryz.underlying233
 a212 := Tryz.isAgg233
 z212 := Tryz.sizeOf233
 v212 := Tryz.zeroValue233
 t213 := Tryz.underlying235
 a213 := Tryz.isAgg235
 z213 := Tryz.sizeOf235
 t232 := Tryz.underlying258
 a232 := Tryz.isAgg258
 z232 := Tryz.sizeOf258
 v232 := Tryz.zeroValue258
 t233 := Tryz.underlying259
 a233 := Tryz.isAgg259
 z233 := Tryz.sizeOf259
 v233 := Tryz.zeroValue259
 g15 := by kernel_rfl
 g16 := by kernel_rfl
 g17 := by kernel_rfl
 g18 := by kernel_rfl
 g19 := by kernel_rfl
 t80 := Tryz.underlying95
 a80 := Tryz.isAgg95
 z80 := Tryz.sizeOf95
 v80 := Tryz.zeroValue95
 i0 := by kernel_rfl
 i2 := by kernel_rfl
 i3 := by kernel_rfl
 i4 := by kernel_rfl
 i5 := by kernel_rfl
 i9 := by kernel_rfl
 i20 := by kernel_rfl
 i21 := by kernel_rfl
 i37 := by kernel_rfl
 i46 := by kernel_rfl
 i51 := by kernel_rfl
 i53 := by kernel_rfl
 i75 := by kernel_rfl
 i76 := by kernel_rfl
 i80 := by kernel_rfl
 i85 := by kernel_rfl
 i127 := by kernel_rfl
 i143 := by kernel_rfl
 i145 := by kernel_rfl
 i167 := by kernel_rfl
 i168 := by kernel_rfl
 i171 := by kernel_rfl
 i173 := by kernel_rfl
 i175 := by kernel_rfl
 i210 := by kernel_rfl
 i212 := by kernel_rfl
 i232 := by kernel_rfl
 i233 := by kernel_rfl
 m15 := by kernel_rfl
 m16 := by kernel_rfl
 m17 := by kernel_rfl
 m18 := by kernel_rfl
 m19 := by kernel_rfl
 c0 := by kernel_rfl
 c2 := by kernel_rfl
 c3 := by kernel_rfl
 c4 := by kernel_rfl
 c5 := by kernel_rfl
 c9 := by kernel_rfl
 c20 := by kernel_rfl
 c21 := by kernel_rfl
 c37 := by kernel_rfl
 c46 := by kernel_rfl
 c51 := by kernel_rfl
 c53 := by kernel_rfl
 c75 := by kernel_rfl
 c76 := by kernel_rfl
 c80 := by kernel_rfl
 c85 := by kernel_rfl
 c127 := by kernel_rfl
 c143 := by kernel_rfl
 c145 := by kernel_rfl
 c167 := by kernel_rfl
 c168 := by kernel_rfl
 c171 := by kernel_rfl
 c173 := by kernel_rfl
 c175 := by kernel_rfl
 c210 := by kernel_rfl
 c212 := by kernel_rfl
 c213 := by kernel_rfl
 c232 := by kernel_rfl
 c233 := by kernel_rfl }
end Go.Proofs
namespace Go.Sp
open Go Go.Av
def wdC (w : List UInt8) : List D := [.s (tx w)]
abbrev linD (ws : List (List UInt8)) : D := .l 1 16 (ws.map wdC)
end Go.Sp
namespace Go.Proofs.YtajnpfgelpkijaaGreatDoor
open Go Go.Av Go.Sp Go.RowKit
theorem cal_Atoi : Cal Tryz.prog 38 := Cal.of Tryz.func38 (by kernel_rfl) (by kernel_rfl)
theorem cal_Split : Cal Tryz.prog 14 := Cal.of Tryz.func14 (by kernel_rfl) (by kernel_rfl)
theorem cal_TrimSuffix : Cal Tryz.prog 15 := Cal.of Tryz.func15 (by kernel_rfl) (by kernel_rfl)
theorem cal_CutPrefix : Cal Tryz.prog 115 := Cal.of Tryz.func115 (by kernel_rfl) (by kernel_rfl)
theorem cal_IndexByte : Cal Tryz.prog 37 := Cal.of Tryz.func37 (by kernel_rfl) (by kernel_rfl)
theorem sm_cell {w : World} {I : Nat → Prop} {g : Nat} {p : Value → Prop} (h : PD w I [.sm fun _ _ v => p v] ⟨g, 0, none⟩) : ∃ v, w.cell? ⟨g, 0, none⟩ = some v ∧ p v := by
 obtain ⟨c, h1, hr⟩ := h.2 0 _ rfl
 cases hr with
 | sm q b o v hI hw hc hq h1' => exact ⟨_, h1, hq⟩
theorem Atoi (w : List UInt8) (hw : w.length ≤ 100000) : ACr Tryz.prog GP 38 [.val (.string (tx w))] (.tup [.int (atoiV w), .any]) := by
 refine AC_leave (us := [.string (tx w)]) fun W I _ hg => ?_
 cases ha : Lib.atoiAll w with
 | ok v =>
   have e : atoiV w = v := by unfold atoiV; rw [ha]
   rw [e]
   refine (Any.strconv_Atoi_ok Tryz.laysC172 (tx w) (by show w.length ≤ _; omega) v ha W).mono ?_
   rintro e' w' ⟨rfl, hb⟩
   refine ⟨?_, _, rfl, [_, _], rfl, rfl, trivial, trivial⟩
   rcases hb with rfl | ⟨t, rfl⟩
   · exact Below.refl _ _
   · exact Lib.bytesWorld_below _ _ _
 | range =>
   have e : atoiV w = Lib.atoiSat w := by unfold atoiV; rw [ha]
   rw [e]
   obtain ⟨ev, h1, h2⟩ := sm_cell (p := isIf) (hg _ GP_ran)
   refine (Any.strconv_Atoi_range Tryz.laysC172 (tx w) (by show w.length ≤ _; omega) ha ev W h1 h2).mono ?_
   rintro e' w' ⟨N, rfl, _, _, hb⟩
   exact ⟨hb, _, rfl, [_, _], rfl, rfl, trivial, trivial⟩
 | _ =>
   have e : atoiV w = 0 := by unfold atoiV; rw [ha]
   rw [e]
   obtain ⟨ev, h1, h2⟩ := sm_cell (p := isIf) (hg _ GP_syn)
   refine (Any.strconv_Atoi_syntax Tryz.laysC172 (tx w) (by show w.length ≤ _; omega) ha ev W h1 h2).mono ?_
   rintro e' w' ⟨N, rfl, _, _, hb⟩
   exact ⟨hb, _, rfl, [_, _], rfl, rfl, trivial, trivial⟩
theorem Split (s : List UInt8) (hs : s.length ≤ 100000) : ACr Tryz.prog GP 14 [.val (.string (tx s)), .val (.string (tx [32]))] (.d (linD (spl 32 s))) := by
 have hl : (Lib.splitB (tx [32]) 0 (Lib.countB (tx s) (tx [32])) (tx s)) = (spl 32 s).map tx := splitB_spl 32 (tx s)
 have hc : Lib.countB (tx s) (tx [32]) + 1 = ((spl 32 s).map tx).length := by
  rw [← hl, Lib.splitB_all (tx [32]) (by decide) 0 _ (tx s) rfl]
 have hne := spl_ne 32 s
 have hlen := spl_len 32 s
 have k := AC_pieces (P := Tryz.prog) (G := GP) (f := 14) (us := [.string (tx s), .string (tx [32])]) (T := 9) (l := (spl 32 s).map tx) (by rw [List.length_map]; cases h : spl 32 s with | nil => exact absurd h hne | cons a l => simp) (by rw [List.length_map]; omega) fun w I hg => by
  obtain ⟨v, h1, m, rfl⟩ := sm_cell (p := isI64) (hg _ GP_max)
  have h := Any.strings_Split (ρ := Tryz.laysM146_ren) { Tryz.laysM146 with } Tryz.laysM146.i9 (tx s) (tx [32]) m w (by show s.length < _; omega) h1 (by decide)
  rw [hl, hc] at h
  refine h.mono ?_
  rintro e w' ⟨rfl, rfl⟩
  exact ⟨rfl, rfl⟩
 rw [List.map_map] at k
 exact k
theorem TrimSuffix (s : List UInt8) (hs : s.length ≤ 100000) : ACr Tryz.prog GP 15 [.val (.string (tx s)), .val (.string (tx [10]))] (.val (.string (tx (Lib.trimSuffix s [10])))) :=
 ACr_leave (us := [.string (tx s), .string (tx [10])]) fun w I _ => (Any.strings_TrimSuffix Tryz.lays102 (tx s) (tx [10]) w (by show s.length ≤ _; omega)).mono fun e w' ⟨h1, h2⟩ => ⟨h1, by rw [h2]; exact Below.refl _ _⟩
theorem CutPrefix (s : List UInt8) : ACr Tryz.prog GP 115 [.val (.string (tx s)), .val (.string (tx [80]))] (.tup [.val (.string (tx (Lib.trimPrefix s [80]))), .val (.bool (Lib.hasPrefix s [80]))]) := by
 refine AC_leave (us := [.string (tx s), .string (tx [80])]) fun w I _ _ => (Any.strings_CutPrefix Tryz.lays103 (tx s) (tx [80]) w).mono ?_
 rintro e w' ⟨rfl, rfl⟩
 exact ⟨Below.refl _ _, _, rfl, [_, _], rfl, rfl, rfl, trivial⟩
theorem IndexByte (s : List UInt8) : ACr Tryz.prog GP 37 [.val (.string (tx s)), .val (.int .u8 10)] (.int (Lib.indexByte s 10)) :=
 ACr_leave (us := [.string (tx s), .int .u8 10]) fun w I _ => (Any.strings_IndexByte Tryz.lays137 (tx s) 10 w).mono fun e w' ⟨h1, h2⟩ => ⟨h1, by rw [h2]; exact Below.refl _ _⟩
end Go.Proofs.YtajnpfgelpkijaaGreatDoor
