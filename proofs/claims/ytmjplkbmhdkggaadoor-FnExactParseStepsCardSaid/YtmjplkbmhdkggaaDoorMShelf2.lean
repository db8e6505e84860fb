/- Contracts of strings.Join and strconv.FormatInt, as the kit lays them (a part of what it lays). No conditions. -/
import Derived.Shelf.Strings.OnBuilder
import Derived.Shelf.Strconv.Itoa4
import Derived.Test.YtmjplkbmhdkggaaDoorProg
import Derived.Deep.RegionHeld3
import Derived.Deep.AppendLies
import Derived.Laws.BytesArg
import Derived.Lib.SplitLaws
import Derived.Lib.ParseIntB
import Derived.Maps.AppendAt
import Derived.Test.YtmjplkbmhdkggaaDoorMLib
namespace Go.Proofs
open Go.Shelf
def Tryd.lays156_ren : Go.Shelf.Ren := ⟨fun | 156 => 20 | 165 => 30 | 166 => 31 | 169 => 32 | 240 => 36 | 241 => 37 | 276 => 46 | 277 => 47 | n => n, fun | 31 => 40 | 9 => 9 | 3 => 3 | 4 => 4 | 0 => 0 | 20 => 20 | 72 => 57 | 76 => 61 | 70 => 54 | 37 => 55 | 75 => 60 | 127 => 65 | 164 => 77 | 5 => 5 | 80 => 63 | n => n, fun | n => n⟩
theorem Tryd.lays156 : Go.Proofs.Lays.n156 Tryd.prog Tryd.lays156_ren := {
 mixed := by kernel_rfl
 f156 := Tryd.func20.trans (congrArg some (by kernel_rfl))
 f165 := Tryd.func30.trans (congrArg some (by kernel_rfl))
 f166 := Tryd.func31.trans (congrArg some (by kernel_rfl))
 f169 := Tryd.func32.trans (congrArg some (by kernel_rfl))
 f240 := Tryd.func36.trans (congrArg some (by kernel_rfl))
 f241 := Tryd.func37.trans (congrArg some (by kernel_rfl))
 f276 := Tryd.func46.trans (congrArg some (by kernel_rfl))
 f277 := Tryd.func47.trans (congrArg some (by kernel_rfl))
 t0 := Tryd.underlying0
 a0 := Tryd.isAgg0
 z0 := Tryd.sizeOf0
 v0 := Tryd.zeroValue0
 t3 := Tryd.underlying3
 a3 := Tryd.isAgg3
 z3 := Tryd.sizeOf3
 v3 := Tryd.zeroValue3
 t4 := Tryd.underlying4
 a4 := Tryd.isAgg4
 z4 := Tryd.sizeOf4
 v4 := Tryd.zeroValue4
 t9 := Tryd.underlying9
 a9 := Tryd.isAgg9
 z9 := Tryd.sizeOf9
 v9 := Tryd.zeroValue9
 t20 := Tryd.underlying20
 a20 := Tryd.isAgg20
 z20 := Tryd.sizeOf20
 v20 := Tryd.zeroValue20
 t31 := Tryd.underlying40
 a31 := Tryd.isAgg40
 z31 := Tryd.sizeOf40
 v31 := Tryd.zeroValue40
 t37 := Tryd.underlying55
 a37 := Tryd.isAgg55
 z37 := Tryd.sizeOf55
 v37 := Tryd.zeroValue55
 t70 := Tryd.underlying54
 a70 := Tryd.isAgg54
 z70 := Tryd.sizeOf54
 v70 := Tryd.zeroValue54
 t72 := Tryd.underlying57
 a72 := Tryd.isAgg57
 z72 := Tryd.sizeOf57
 v72 := Tryd.zeroValue57
 t75 := Tryd.underlying60
 a75 := Tryd.isAgg60
 z75 := Tryd.sizeOf60
 v75 := Tryd.zeroValue60
 t76 := Tryd.underlying61
 a76 := Tryd.isAgg61
 z76 := Tryd.sizeOf61
 v76 := Tryd.zeroValue61
 t127 := Tryd.underlying65
 a127 := Tryd.isAgg65
 z127 := Tryd.sizeOf65
 v127 := Tryd.zeroValue65
 t164 := Tryd.underlying77
 a164 := Tryd.isAgg77
 z164 := Tryd.sizeOf77
 v164 := Tryd.zeroValue77 }
theorem Tryd.Builder_Extra_156 : Builder.Extra Tryd.prog Tryd.lays156_ren := {
 sizeBuilder := by kernel_rfl
 liesBuilder := by kernel_rfl
 t5 := Tryd.underlying5
 a5 := Tryd.isAgg5
 z5 := Tryd.sizeOf5
 v5 := Tryd.zeroValue5
 infoByte := by kernel_rfl
 cellsByte := by kernel_rfl
 sizeByte := by kernel_rfl
 neB5 := by decide }
open Go.RowKit in
/-- No element: the empty string; the world is as it was. (Whatever the slice's address and capacity: a nil slice too.) (LAID: no walk: one application.) -/
theorem Tryd.strings_Join_none (a : Option Addr) (c : Nat) (sep : ByteArray) (w : World) :
  Calls Tryd.prog 20 #[.slice a 0 c, .string sep] w fun e w' => e = .returned (.string ⟨#[]⟩) ∧ w' = w := Any.strings_Join_none Tryd.lays156 Tryd.Builder_Extra_156 a c sep w
open Go.RowKit in
/-- strings.Join: "Join concatenates the elements of its first argument to create a single string. The separator string sep is placed between elements in the resulting string.": HOWEVER MANY ELEMENTS. Below the heap's end the world is as it was. (LAID: no walk: one application.) -/
theorem Tryd.strings_Join (bk o c : Nat) (xs : List ByteArray) (sep : ByteArray) (w : World) (hcells : ∀ (j : Nat) x, xs[j]? = some x → w.cell? ⟨bk, o + j, none⟩ = some (.string x)) (hbk : bk < w.heap.size) (hN : xs.length ≤ 140737488355328) (hcap : xs.length ≤ c) (hlen : (Lib.join (xs.map (·.data.toList)) sep.data.toList).length ≤ 140737488355328) :
  Calls Tryd.prog 20 #[.slice (some ⟨bk, o, none⟩) xs.length c, .string sep] w fun e w' => e = .returned (.string ⟨(Lib.join (xs.map (·.data.toList)) sep.data.toList).toArray⟩) ∧ Below w.heap.size w w' := Any.strings_Join Tryd.lays156 Tryd.Builder_Extra_156 bk o c xs sep w hcells hbk hN hcap hlen
def Tryd.lays173_ren : Go.Shelf.Ren := ⟨fun | 173 => 29 | 246 => 35 | 283 => 42 | 284 => 43 | 285 => 44 | 286 => 45 | 129 => 55 | 317 => 54 | 318 => 56 | 319 => 57 | 320 => 58 | 337 => 69 | 338 => 70 | n => n, fun | 2 => 2 | 3 => 3 | 9 => 9 | 4 => 4 | 171 => 71 | 0 => 0 | 53 => 72 | 37 => 55 | 5 => 5 | 173 => 75 | 212 => 87 | 51 => 88 | 20 => 20 | 213 => 89 | 46 => 91 | 232 => 111 | 233 => 112 | n => n, fun | 17 => 0 | 18 => 6 | 19 => 7 | n => n⟩
theorem Tryd.lays173 : Go.Proofs.Lays.n173 Tryd.prog Tryd.lays173_ren := {
 mixed := by kernel_rfl
 f129 := Tryd.func55.trans (congrArg some (by kernel_rfl))
 f173 := Tryd.func29.trans (congrArg some (by kernel_rfl))
 f246 := Tryd.func35.trans (congrArg some (by kernel_rfl))
 f283 := Tryd.func42.trans (congrArg some (by kernel_rfl))
 f284 := Tryd.func43.trans (congrArg some (by kernel_rfl))
 f285 := Tryd.func44.trans (congrArg some (by kernel_rfl))
 f286 := Tryd.func45.trans (congrArg some (by kernel_rfl))
 f317 := Tryd.func54.trans (congrArg some (by kernel_rfl))
 f318 := Tryd.func56.trans (congrArg some (by kernel_rfl))
 f319 := Tryd.func57.trans (congrArg some (by kernel_rfl))
 f320 := Tryd.func58.trans (congrArg some (by kernel_rfl))
 f337 := Tryd.func69.trans (congrArg some (by kernel_rfl))
 f338 := Tryd.func70.trans (congrArg some (by kernel_rfl))
 t0 := Tryd.underlying0
 a0 := Tryd.isAgg0
 z0 := Tryd.sizeOf0
 v0 := Tryd.zeroValue0
 t2 := Tryd.underlying2
 a2 := Tryd.isAgg2
 z2 := Tryd.sizeOf2
 v2 := Tryd.zeroValue2
 t3 := Tryd.underlying3
 a3 := Tryd.isAgg3
 z3 := Tryd.sizeOf3
 v3 := Tryd.zeroValue3
 t4 := Tryd.underlying4
 a4 := Tryd.isAgg4
 z4 := Tryd.sizeOf4
 v4 := Tryd.zeroValue4
 t5 := Tryd.underlying5
 a5 := Tryd.isAgg5
 z5 := Tryd.sizeOf5
 v5 := Tryd.zeroValue5
 t9 := Tryd.underlying9
 a9 := Tryd.isAgg9
 z9 := Tryd.sizeOf9
 v9 := Tryd.zeroValue9
 t20 := Tryd.underlying20
 a20 := Tryd.isAgg20
 z20 := Tryd.sizeOf20
 v20 := Tryd.zeroValue20
 t37 := Tryd.underlying55
 a37 := Tryd.isAgg55
 z37 := Tryd.sizeOf55
 v37 := Tryd.zeroValue55
 t46 := Tryd.underlying91
 a46 := Tryd.isAgg91
 z46 := Tryd.sizeOf91
 v46 := Tryd.zeroValue91
 t51 := Tryd.underlying88
 a51 := Tryd.isAgg88
 z51 := Tryd.sizeOf88
 v51 := Tryd.zeroValue88
 t53 := Tryd.underlying72
 a53 := Tryd.isAgg72
 z53 := Tryd.sizeOf72
 v53 := Tryd.zeroValue72
 t171 := Tryd.underlying71
 a171 := Tryd.isAgg71
 z171 := Tryd.sizeOf71
 v171 := Tryd.zeroValue71
 t173 := Tryd.underlying75
 a173 := Tryd.isAgg75
 z173 := Tryd.sizeOf75
 v173 := Tryd.zeroValue75
 t212 := Tryd.underlying87
 a212 := Tryd.isAgg87
 z212 := Tryd.sizeOf87
 v212 := Tryd.zeroValue87
 t213 := Tryd.underlying89
 a213 := Tryd.isAgg89
 z213 := Tryd.sizeOf89
 t232 := Tryd.underlying111
 a232 := Tryd.isAgg111
 z232 := Tryd.sizeOf111
 v232 := Tryd.zeroValue111
 t233 := Tryd.underlying112
 a233 := Tryd.isAgg112
 z233 := Tryd.sizeOf112
 v233 := Tryd.zeroValue112
 g17 := by kernel_rfl
 g18 := by kernel_rfl
 g19 := by kernel_rfl }
open Go.RowKit Go.Sort Go.Lib in
/-- THE ROAD WITHOUT THE TABLE: 0 <= i < 100. (LAID: no walk: one application.) -/
theorem Tryd.strconv_FormatInt_10_small (i : Nat) (hi : i < 100) (w : World) :
  Calls Tryd.prog 29 #[.int .i64 i, .int .i64 10] w fun e w' => e = .returned (.string ⟨(Lib.decDigits i).toArray⟩) ∧ w' = w := Any.strconv_FormatInt_10_small Tryd.lays173 i hi w
end Go.Proofs
namespace Go.Proofs.YtmjplkbmhdkggaaDoor
open Go.RowKit
set_option linter.unusedVariables false
set_option linter.unusedSimpArgs false
theorem text_small (n : Int) (h0 : 0 ≤ n) (h1 : n ≤ 11) (w : World) :
  Calls Tryd.prog 19 #[.int .i64 n] w fun e' w' => e' = .returned (.string (bs (decW n))) ∧ w' = w := by
 obtain ⟨k, rfl⟩ : ∃ k : Nat, n = (k : Int) := ⟨n.toNat, by omega⟩
 have hk : k < 100 := by omega
 go_enter Tryd.func19, Tryd.ntmps19
 go_wp2_with (go_at_call 29; refine (Go.Proofs.Tryd.strconv_FormatInt_10_small k hk _).mono ?_; rintro e' w' ⟨rfl, rfl⟩)
 go_ret
 exact ⟨rfl, rfl⟩
theorem conv1 (b : Nat) (x : Nat) (hx : x < 256) (w : World) (hc : w.cell? ⟨b, 0, none⟩ = some (.int .u8 (x : Int))) : (convert 55 9 (.slice (some ⟨b, 0, none⟩) 1 1)).run Tryd.prog w = .ok (.string ⟨[UInt8.ofNat x].toArray⟩) w := by
 have h := run_convert_bytes_arg (P := Tryd.prog) w 55 5 Tryd.underlying55 Tryd.underlying5 b 0 1 1 [(x : Int)] rfl (fun i hi => by
  obtain rfl : i = 0 := by omega
  simpa using hc) 9 Tryd.underlying9
 rw [h]
 congr 2
theorem decW_lt {k : Nat} (h : k < 10) : decW (k : Int) = [UInt8.ofNat (48 + k)] := by
 unfold decW Lib.decDigits
 simp [h]
set_option maxRecDepth 100000 in
theorem dec0 (k : Nat) (h : k < 10) (w : World) :
  Calls Tryd.prog 28 #[.int .i64 (k : Int)] w fun e w' => e = .returned (.string (bs (decW k))) ∧ Below w.heap.size w w' := by
 rw [decW_lt h]
 have hcv := conv1 w.heap.size (48 + k) (by omega) (w.alloc (.cells #[.int .u8 (48 + (k : Int))] 5)) (by rw [cell_of_block (heap_alloc_self _ _)]; simp)
 go_enter Tryd.func28, Tryd.ntmps28
 go_wp2_with fail
 go_ret
 exact ⟨by simp [bs], (Below.refl _ _).alloc (Nat.le_refl _) _⟩
def splitL (c : UInt8) : List UInt8 → List (List UInt8)
 | [] => [[]]
 | x :: r => if x = c then [] :: splitL c r else match splitL c r with
   | [] => [[x]]
   | w :: ws => (x :: w) :: ws
theorem splitL_cons (c x : UInt8) (r : List UInt8) : splitL c (x :: r) = if x = c then [] :: splitL c r else match splitL c r with
  | [] => [[x]]
  | w :: ws => (x :: w) :: ws := by rw [splitL]
theorem splitL_ne (c : UInt8) : ∀ l, splitL c l ≠ []
 | [] => by simp [splitL]
 | x :: r => by
   unfold splitL
   split
   ·simp
   ·split <;> simp
theorem splitL_join (c : UInt8) : ∀ l, Lib.join (splitL c l) [c] = l
 | [] => by simp [splitL, Lib.join_one]
 | x :: r => by
   have ih := splitL_join c r
   have hne := splitL_ne c r
   unfold splitL
   cases hs : splitL c r with
   | nil => exact absurd hs hne
   | cons w ws =>
     rw [hs, Lib.join_cons] at ih
     split
     ·rename_i e
      subst e
      rw [Lib.join_cons]
      simp only [List.nil_append, Lib.joinTail, List.map_cons, List.flatten_cons]
      show ([x] ++ w) ++ Lib.joinTail [x] ws = x :: r
      rw [← ih]; simp
     ·show Lib.join ((x :: w) :: ws) [c] = x :: r
      rw [Lib.join_cons, List.cons_append, ih]
theorem splitL_last {c : UInt8} : ∀ {p : List UInt8}, (∀ x ∈ p, x ≠ c) → splitL c p = [p]
 | [], _ => rfl
 | x :: p, h => by
   unfold splitL
   rw [if_neg (h x (by simp)), splitL_last (p := p) fun y hy => h y (by simp [hy])]
theorem splitL_pre {c : UInt8} {r : List UInt8} : ∀ {p : List UInt8}, (∀ x ∈ p, x ≠ c) → splitL c (p ++ c :: r) = p :: splitL c r
 | [], _ => by show splitL c (c :: r) = _; rw [splitL_cons, if_pos rfl]
 | x :: p, h => by
   show splitL c (x :: (p ++ c :: r)) = _
   rw [splitL_cons, if_neg (h x (by simp)), splitL_pre (p := p) fun y hy => h y (by simp [hy])]
theorem index_one (c b : UInt8) (l : List UInt8) : Lib.index (b :: l) [c] = if b = c then 0 else if Lib.index l [c] == -1 then -1 else Lib.index l [c] + 1 := by
 rw [Lib.index]
 by_cases h : b = c
 ·subst h; simp
 ·rw [if_neg h]
  have : ([c] : List UInt8).isPrefixOf (b :: l) = false := by simp [List.isPrefixOf]; exact fun e => h e.symm
  rw [this, if_neg (by decide)]
theorem index_ge (c : UInt8) : ∀ l : List UInt8, Lib.index l [c] = -1 ∨ 0 ≤ Lib.index l [c]
 | [] => .inl (by simp [Lib.index])
 | b :: l => by
   rw [index_one]
   split
   ·exact .inr (Int.le_refl _)
   ·split
    ·exact .inl rfl
    ·rename_i h1 h2
     rcases index_ge c l with h | h
     ·rw [h] at h2; exact absurd rfl h2
     ·exact .inr (by omega)
theorem split_lib (c : UInt8) : ∀ s : List UInt8, Lib.split s [c] = splitL c s
 | [] => by
   have h : Lib.count [] [c] = 0 := by rw [Lib.count_one]; rfl
   unfold Lib.split
   rw [h]
   rfl
 | b :: l => by
   have ih := split_lib c l
   unfold Lib.split at ih ⊢
   by_cases hb : b = c
   ·subst hb
    rw [Lib.count_cons_eq, Nat.add_comm]
    unfold Lib.splitK splitL
    have hi : Lib.index (b :: l) [b] = 0 := by rw [index_one, if_pos rfl]
    rw [if_pos rfl, hi, if_neg (by decide)]
    simp only [Int.toNat_zero, Nat.zero_add, List.length_cons, List.length_nil, List.take_zero, List.drop_succ_cons, List.drop_zero]
    rw [ih]
   ·rw [Lib.count_cons_ne _ _ _ hb]
    unfold splitL
    rw [if_neg hb, ← ih]
    have hi : Lib.index (b :: l) [c] = if Lib.index l [c] == -1 then -1 else Lib.index l [c] + 1 := by rw [index_one, if_neg hb]
    cases hk : Lib.count l [c] with
    | zero => rfl
    | succ k =>
      have hm : ¬ Lib.index l [c] = -1 := fun e => by rw [Lib.count_miss e] at hk; cases hk
      have hm2 : ¬ (Lib.index l [c] == -1) = true := fun e => hm (beq_iff_eq.1 e)
      have hg := (index_ge c l).resolve_left hm
      rw [if_neg hm2] at hi
      have hi2 : ¬ (Lib.index (b :: l) [c] == -1) = true := fun e => by have := beq_iff_eq.1 e; omega
      unfold Lib.splitK
      rw [if_neg hi2, if_neg hm2, hi]
      rw [show (Lib.index l [c] + 1).toNat = (Lib.index l [c]).toNat + 1 by omega]
      simp [List.take_succ_cons, List.drop_succ_cons, Nat.add_right_comm]
def getw (ws : List (List UInt8)) (k : Nat) : List UInt8 := ws.getD k []
/-- A number with at most thirteen digits, as the reference reads it. -/
def valN (w : List UInt8) : Nat := w.foldl (fun n b => 10 * n + (b.toNat - 48)) 0
def digB (w : List UInt8) : Bool := w.all fun b => decide (48 ≤ b.toNat) && decide (b.toNat ≤ 57)
def valR (w : List UInt8) : Bool × Int :=
 if w.length < 1 then (false, 0) else if 13 < w.length then (false, 0) else if digB w = false then (false, 0) else (decide (Lib.decDigits (valN w) = w), (valN w : Int))
/-- A number, as the program reads it. -/
def numI (w : List UInt8) : Bool × Int := match Lib.parseIntB 64 w with
 | .ok v => (decide (Lib.itoa v = w), v)
 | _ => (false, 0)
def pstR (w : List UInt8) : Bool × (Int × Int) :=
 if w = [43] then (true, (-1, 0)) else match splitL 47 w with
  | [a, b] => ((valR a).1 && (valR b).1, ((valR a).2, (valR b).2))
  | _ => (false, (0, 0))
def pstI (w : List UInt8) : Bool × (Int × Int) :=
 if w = [43] then (true, (-1, 0)) else match splitL 47 w with
  | [a, b] => ((numI a).1 && (numI b).1, ((numI a).2, (numI b).2))
  | _ => (false, (0, 0))
def pairR (ps : List (List UInt8)) : Bool × (Int × Int) := match ps with
 | [a, b] => ((valR a).1 && (valR b).1, ((valR a).2, (valR b).2))
 | _ => (false, (0, 0))
def pairI (ps : List (List UInt8)) : Bool × (Int × Int) := match ps with
 | [a, b] => ((numI a).1 && (numI b).1, ((numI a).2, (numI b).2))
 | _ => (false, (0, 0))
theorem pstR_pair {w : List UInt8} (h : w ≠ [43]) : pstR w = pairR (splitL 47 w) := by unfold pstR; rw [if_neg h]; rfl
theorem pstI_pair {w : List UInt8} (h : w ≠ [43]) : pstI w = pairI (splitL 47 w) := by unfold pstI; rw [if_neg h]; rfl
theorem pairR_ne {ps : List (List UInt8)} (h : ps.length ≠ 2) : (pairR ps).1 = false := by
 match ps, h with
 | [], _ => rfl
 | [_], _ => rfl
 | [_, _], h => exact absurd rfl h
 | _ :: _ :: _ :: _, _ => rfl
theorem pairI_ne {ps : List (List UInt8)} (h : ps.length ≠ 2) : (pairI ps).1 = false := by
 match ps, h with
 | [], _ => rfl
 | [_], _ => rfl
 | [_, _], h => exact absurd rfl h
 | _ :: _ :: _ :: _, _ => rfl
theorem two_of {ps : List (List UInt8)} (h : ps.length = 2) : ∃ a b, ps = [a, b] := by
 match ps, h with
 | [a, b], _ => exact ⟨a, b, rfl⟩
def okTo (f : List UInt8 → Bool × (Int × Int)) (ws : List (List UInt8)) : Nat → Bool
 | 0 => true
 | k + 1 => okTo f ws k && (f (getw ws k)).1
def outTo (f : List UInt8 → Bool × (Int × Int)) (ws : List (List UInt8)) : Nat → List (Int × Int)
 | 0 => []
 | k + 1 => outTo f ws k ++ [(f (getw ws k)).2]
/-- What both return. -/
def psAns (t : List UInt8) : List (Int × Int) × Int :=
 if t = [] then ([], 0) else if okTo pstR (splitL 32 t) (splitL 32 t).length = false then ([], 6)
 else if codeS (outTo pstR (splitL 32 t) (splitL 32 t).length) ≠ 0 then ([], 6) else (outTo pstR (splitL 32 t) (splitL 32 t).length, 0)
def psImp (t : List UInt8) : List (Int × Int) × Int :=
 if t = [] then ([], 0) else if okTo pstI (splitL 32 t) (splitL 32 t).length = false then ([], 6)
 else if (stxAns (outTo pstI (splitL 32 t) (splitL 32 t).length)).2 ≠ 0 ∨ (stxAns (outTo pstI (splitL 32 t) (splitL 32 t).length)).1 ≠ t then ([], 6) else (outTo pstI (splitL 32 t) (splitL 32 t).length, 0)
theorem dec_lit {n : Int} (h0 : 0 ≤ n) (h1 : n ≤ 11) : (n, decW n) ∈ ([(0, [48]), (1, [49]), (2, [50]), (3, [51]), (4, [52]), (5, [53]), (6, [54]), (7, [55]), (8, [56]), (9, [57]), (10, [49, 48]), (11, [49, 49])] : List (Int × List UInt8)) := by
 have : n = 0 ∨ n = 1 ∨ n = 2 ∨ n = 3 ∨ n = 4 ∨ n = 5 ∨ n = 6 ∨ n = 7 ∨ n = 8 ∨ n = 9 ∨ n = 10 ∨ n = 11 := by omega
 rcases this with rfl | rfl | rfl | rfl | rfl | rfl | rfl | rfl | rfl | rfl | rfl | rfl <;> (unfold decW Lib.decDigits; simp) <;> (unfold Lib.decDigits; simp)
theorem val_dec {n : Int} (h0 : 0 ≤ n) (h1 : n ≤ 11) : valR (decW n) = (true, n) := by
 have hd : Lib.decDigits n.toNat = decW n := rfl
 have h := dec_lit h0 h1
 have key : valN (decW n) = n.toNat ∧ digB (decW n) = true ∧ 1 ≤ (decW n).length ∧ (decW n).length ≤ 2 := by
  generalize decW n = w at h
  simp only [List.mem_cons, Prod.mk.injEq, List.mem_nil_iff, or_false] at h
  rcases h with ⟨rfl, rfl⟩ | ⟨rfl, rfl⟩ | ⟨rfl, rfl⟩ | ⟨rfl, rfl⟩ | ⟨rfl, rfl⟩ | ⟨rfl, rfl⟩ | ⟨rfl, rfl⟩ | ⟨rfl, rfl⟩ | ⟨rfl, rfl⟩ | ⟨rfl, rfl⟩ | ⟨rfl, rfl⟩ | ⟨rfl, rfl⟩ <;> exact ⟨rfl, rfl, by decide, by decide⟩
 obtain ⟨k1, k2, k3, k4⟩ := key
 unfold valR
 rw [if_neg (by omega), if_neg (by omega), if_neg (by rw [k2]; decide), k1, hd]
 simp; omega
theorem num_dec {n : Int} (h0 : 0 ≤ n) (h1 : n ≤ 11) : numI (decW n) = (true, n) := by
 have hi : Lib.itoa n = decW n := by unfold Lib.itoa; rw [if_neg (by omega)]; rfl
 have h := dec_lit h0 h1
 have key : Lib.parseIntB 64 (decW n) = .ok n := by
  generalize decW n = w at h
  simp only [List.mem_cons, Prod.mk.injEq, List.mem_nil_iff, or_false] at h
  rcases h with ⟨rfl, rfl⟩ | ⟨rfl, rfl⟩ | ⟨rfl, rfl⟩ | ⟨rfl, rfl⟩ | ⟨rfl, rfl⟩ | ⟨rfl, rfl⟩ | ⟨rfl, rfl⟩ | ⟨rfl, rfl⟩ | ⟨rfl, rfl⟩ | ⟨rfl, rfl⟩ | ⟨rfl, rfl⟩ | ⟨rfl, rfl⟩ <;> decide
 unfold numI
 rw [key]
 simp [hi]
theorem num_text {w : List UInt8} (h : (numI w).1 = true) : w = Lib.itoa (numI w).2 := by
 unfold numI at h ⊢
 split at h
 ·rename_i v hv
  exact (of_decide_eq_true h).symm
 ·cases h
theorem val_text {w : List UInt8} (h : (valR w).1 = true) : 0 ≤ (valR w).2 ∧ w = decW (valR w).2 := by
 unfold valR at h ⊢
 split at h
 ·cases h
 ·split at h
  ·cases h
  ·split at h
   ·cases h
   ·rename_i h1 h2 h3
    rw [if_neg h1, if_neg h2, if_neg h3]
    refine ⟨by show (0 : Int) ≤ (valN w : Int); omega, ?_⟩
    have := of_decide_eq_true h
    unfold decW
    show w = Lib.decDigits ((valN w : Int)).toNat
    rw [Int.toNat_natCast, this]
theorem itoa_dec {n : Int} (h0 : 0 ≤ n) : Lib.itoa n = decW n := by unfold Lib.itoa; rw [if_neg (by omega)]; rfl
theorem two_join {w a b : List UInt8} (h : splitL 47 w = [a, b]) : w = a ++ [47] ++ b := by
 have := splitL_join 47 w
 rw [h, Lib.join_cons] at this
 rw [← this]; simp [Lib.joinTail]
theorem fit_in {x : Int × Int} (h : fitS x = true) (ho : openS x = false) : (0 ≤ x.1 ∧ x.1 ≤ 9) ∧ (0 ≤ x.2 ∧ x.2 ≤ 11) := by
 unfold fitS at h
 rw [ho, Bool.false_or, Bool.and_eq_true, inB_iff, inB_iff] at h
 exact h
/-- What the reference reads and may stand, the program reads; and it is written so. -/
theorem step_R {w : List UInt8} (h : (pstR w).1 = true) (hf : fitS (pstR w).2 = true) : pstI w = pstR w ∧ wordS (pstR w).2 = w := by
 unfold pstR at h hf ⊢
 unfold pstI
 by_cases hw : w = [43]
 ·rw [if_pos hw, if_pos hw]
  exact ⟨rfl, by rw [hw]; rfl⟩
 ·rw [if_neg hw] at h hf ⊢
  rw [if_neg hw]
  split at h
  ·rename_i a b hs
   simp only [hs] at hf ⊢
   rw [Bool.and_eq_true] at h
   obtain ⟨ha0, ha⟩ := val_text h.1
   obtain ⟨hb0, hb⟩ := val_text h.2
   have ho : openS ((valR a).2, (valR b).2) = false := by
    unfold openS
    have : ((valR a).2 == -1) = false := beq_eq_false_iff_ne.2 (by omega)
    simp [this]
   obtain ⟨⟨_, hi1⟩, _, hi2⟩ := fit_in hf ho
   have hi1 : (valR a).2 ≤ 9 := hi1
   have hi2 : (valR b).2 ≤ 11 := hi2
   have na : numI a = (true, (valR a).2) := by conv => lhs; rw [ha]; rw [num_dec ha0 (by omega)]
   have nb : numI b = (true, (valR b).2) := by conv => lhs; rw [hb]; rw [num_dec hb0 hi2]
   refine ⟨by rw [na, nb, h.1, h.2], ?_⟩
   unfold wordS
   rw [ho]
   show decW (valR a).2 ++ [47] ++ decW (valR b).2 = w
   rw [← ha, ← hb, ← two_join hs]
  ·cases h
/-- What the program reads and may stand is written no longer than it stood; if as long, then so, and the reference reads it, too. -/
theorem step_I {w : List UInt8} (h : (pstI w).1 = true) (hf : fitS (pstI w).2 = true) : (wordS (pstI w).2).length ≤ w.length ∧ ((wordS (pstI w).2).length = w.length → pstR w = pstI w) := by
 unfold pstI at h hf ⊢
 unfold pstR
 by_cases hw : w = [43]
 ·rw [if_pos hw]
  exact ⟨by rw [hw]; exact Nat.le_refl _, fun _ => by rw [if_pos hw]⟩
 ·rw [if_neg hw] at h hf ⊢
  rw [if_neg hw]
  split at h
  ·rename_i a b hs
   simp only [hs] at hf ⊢
   rw [Bool.and_eq_true] at h
   have ha := num_text h.1
   have hb := num_text h.2
   have hj := two_join hs
   cases ho : openS ((numI a).2, (numI b).2)
   ·obtain ⟨⟨p1, p2⟩, q1, q2⟩ := fit_in hf ho
    have p1 : 0 ≤ (numI a).2 := p1
    have p2 : (numI a).2 ≤ 9 := p2
    have q1 : 0 ≤ (numI b).2 := q1
    have q2 : (numI b).2 ≤ 11 := q2
    rw [itoa_dec p1] at ha
    rw [itoa_dec q1] at hb
    have va : valR a = (true, (numI a).2) := by conv => lhs; rw [ha]; rw [val_dec p1 (by omega)]
    have vb : valR b = (true, (numI b).2) := by conv => lhs; rw [hb]; rw [val_dec q1 q2]
    have hword : wordS ((numI a).2, (numI b).2) = w := by
     unfold wordS
     rw [ho]
     show decW (numI a).2 ++ [47] ++ decW (numI b).2 = w
     rw [← ha, ← hb, ← hj]
    exact ⟨by rw [hword]; exact Nat.le_refl _, fun _ => by rw [va, vb, h.1, h.2]⟩
   ·have hop : (numI a).2 = -1 ∧ (numI b).2 = 0 := by
     unfold openS at ho
     simp only [Bool.and_eq_true, beq_iff_eq] at ho
     exact ho
    have hla : a.length = 2 := by
     rw [ha, hop.1]
     unfold Lib.itoa Lib.decDigits
     simp
    have hwl : wordS ((numI a).2, (numI b).2) = [43] := by unfold wordS; rw [if_pos ho]
    rw [hwl]
    have hl : w.length = a.length + 1 + b.length := by rw [hj]; simp; omega
    refine ⟨by simp; omega, fun e => ?_⟩
    simp at e
    omega
  ·cases h
section
variable {f g : List UInt8 → Bool × (Int × Int)} {ws : List (List UInt8)}
theorem ok_all : ∀ {n}, okTo f ws n = true → ∀ k, k < n → (f (getw ws k)).1 = true
 | n + 1, h, k, hk => by
   unfold okTo at h
   rw [Bool.and_eq_true] at h
   by_cases e : k = n
   ·subst e; exact h.2
   ·exact ok_all h.1 k (by omega)
theorem ok_of : ∀ {n}, (∀ k, k < n → (f (getw ws k)).1 = true) → okTo f ws n = true
 | 0, _ => rfl
 | n + 1, h => by unfold okTo; rw [ok_of fun k hk => h k (by omega), h n (by omega)]; rfl
theorem ok_false {k : Nat} (h : okTo f ws k = false) : ∀ n, k ≤ n → okTo f ws n = false := by
 intro n hn
 induction n with
 | zero => obtain rfl : k = 0 := by omega
           exact h
 | succ n ih =>
   by_cases e : k = n + 1
   ·subst e; exact h
   ·unfold okTo; rw [ih (by omega)]; rfl
theorem out_len : ∀ n, (outTo f ws n).length = n
 | 0 => rfl
 | n + 1 => by simp [outTo, out_len n]
theorem out_get : ∀ {n k}, k < n → gets (outTo f ws n) k = (f (getw ws k)).2
 | n + 1, k, hk => by
   have hl : (outTo f ws n).length = n := out_len n
   unfold outTo gets
   by_cases e : k = n
   ·subst e
    simp [List.getD_eq_getElem?_getD, List.getElem?_append_right, hl]
   ·have := out_get (n := n) (k := k) (by omega)
    unfold gets at this
    rw [← this]
    simp [List.getD_eq_getElem?_getD, List.getElem?_append_left, hl, show k < n by omega]
theorem out_eq : ∀ {n}, (∀ k, k < n → f (getw ws k) = g (getw ws k)) → outTo f ws n = outTo g ws n
 | 0, _ => rfl
 | n + 1, h => by unfold outTo; rw [out_eq fun k hk => h k (by omega), h n (by omega)]
end
theorem words_get (l : List (Int × Int)) : ∀ {n k}, k < n → getw (wordsTo l n) k = wordS (gets l k)
 | n + 1, k, hk => by
   have hl := wordsTo_len l n
   unfold wordsTo getw
   by_cases e : k = n
   ·subst e
    simp [List.getD_eq_getElem?_getD, List.getElem?_append_right, hl]
   ·have := words_get l (n := n) (k := k) (by omega)
    unfold getw at this
    rw [← this]
    simp [List.getD_eq_getElem?_getD, List.getElem?_append_left, hl, show k < n by omega]
theorem list_ext {A B : List (List UInt8)} (hl : A.length = B.length) (h : ∀ k, k < A.length → getw A k = getw B k) : A = B := by
 apply List.ext_getElem hl
 intro k h1 h2
 have := h k h1
 unfold getw at this
 simpa [List.getD_eq_getElem?_getD, List.getElem?_eq_getElem h1, List.getElem?_eq_getElem h2] using this
theorem lens_cons (a : List UInt8) (A : List (List UInt8)) : Lib.lens (a :: A) = a.length + Lib.lens A := by simp [Lib.lens]
theorem lens_le : ∀ (A B : List (List UInt8)), A.length = B.length → (∀ k, k < A.length → (getw A k).length ≤ (getw B k).length) → Lib.lens A ≤ Lib.lens B
 | [], [], _, _ => Nat.le_refl _
 | a :: A, b :: B, hl, h => by
   have h0 := h 0 (by simp)
   have hr := lens_le A B (by simpa using hl) fun k hk => h (k + 1) (by simpa using hk)
   rw [lens_cons, lens_cons]
   have h0 : a.length ≤ b.length := h0
   omega
theorem lens_eq : ∀ (A B : List (List UInt8)), A.length = B.length → (∀ k, k < A.length → (getw A k).length ≤ (getw B k).length) → Lib.lens A = Lib.lens B → ∀ k, k < A.length → (getw A k).length = (getw B k).length
 | [], [], _, _, _, k, hk => by simp at hk
 | a :: A, b :: B, hl, h, he, k, hk => by
   have h0 := h 0 (by simp)
   have h0 : a.length ≤ b.length := h0
   have hr : ∀ k, k < A.length → (getw A k).length ≤ (getw B k).length := fun k hk => h (k + 1) (by simpa using hk)
   have hle := lens_le A B (by simpa using hl) hr
   rw [lens_cons, lens_cons] at he
   cases k with
   | zero => show a.length = b.length; omega
   | succ k => exact lens_eq A B (by simpa using hl) hr (by omega) k (by simpa using hk)
theorem join_len {A : List (List UInt8)} (h : A ≠ []) : (Lib.join A [32]).length + 1 = Lib.lens A + A.length := by
 cases A with
 | nil => exact absurd rfl h
 | cons a A =>
   rw [Lib.join_cons, List.length_append, Lib.joinTail_length, lens_cons]
   simp; omega
theorem stx_zero {l : List (Int × Int)} (h : codeS l = 0) : fitTo l l.length = true ∧ l.length ≤ 1200 ∧ stxAns l = (txtTo l l.length, 0) := by
 unfold codeS at h
 split at h
 ·cases h
 ·split at h
  ·cases h
  ·rename_i h1 h2
   refine ⟨by simpa using h1, by omega, ?_⟩
   unfold stxAns
   rw [if_neg h1, if_neg h2]
theorem stx_cod (l : List (Int × Int)) : (stxAns l).2 = codeS l := by
 unfold stxAns codeS
 split
 ·rfl
 ·split <;> rfl
theorem ps_eq (t : List UInt8) : psImp t = psAns t := by
 unfold psImp psAns
 by_cases ht : t = []
 ·rw [if_pos ht, if_pos ht]
 ·rw [if_neg ht, if_neg ht]
  have hj := splitL_join 32 t
  have hne := splitL_ne 32 t
  obtain ⟨ws, hws⟩ : ∃ ws, splitL 32 t = ws := ⟨_, rfl⟩
  rw [hws] at hj hne ⊢
  obtain ⟨n, hn⟩ : ∃ n, ws.length = n := ⟨_, rfl⟩
  rw [hn]
  have hlR := out_len (f := pstR) (ws := ws) n
  have hlI := out_len (f := pstI) (ws := ws) n
  by_cases hS : okTo pstR ws n = true ∧ codeS (outTo pstR ws n) = 0
  ·obtain ⟨h1, h2⟩ := hS
   obtain ⟨h3, h4, h5⟩ := stx_zero h2
   rw [hlR] at h3 h4 h5
   have hk : ∀ k, k < n → pstI (getw ws k) = pstR (getw ws k) ∧ wordS (pstR (getw ws k)).2 = getw ws k := fun k hk => by
    refine step_R (ok_all h1 k hk) ?_
    have := fitTo_at h3 hk
    rwa [out_get hk] at this
   have e1 : outTo pstI ws n = outTo pstR ws n := out_eq fun k h => (hk k h).1
   have e2 : okTo pstI ws n = true := ok_of fun k h => by rw [(hk k h).1]; exact ok_all h1 k h
   have e3 : wordsTo (outTo pstR ws n) n = ws := list_ext (by rw [wordsTo_len, hn]) fun k h => by
    rw [wordsTo_len] at h
    rw [words_get _ h, out_get h, (hk k h).2]
   have hR : (if okTo pstR ws n = false then (([], 6) : List (Int × Int) × Int) else if codeS (outTo pstR ws n) ≠ 0 then ([], 6) else (outTo pstR ws n, 0)) = (outTo pstR ws n, 0) := by
    rw [if_neg (by rw [h1]; decide), if_neg (by rw [h2]; decide)]
   rw [hR, if_neg (by rw [e2]; decide), e1, if_neg]
   rw [h5]
   rintro (h | h)
   ·exact h rfl
   ·exact h (by show txtTo _ n = t; rw [txt_join, e3, hj])
  ·have hR : (if okTo pstR ws n = false then (([], 6) : List (Int × Int) × Int) else if codeS (outTo pstR ws n) ≠ 0 then ([], 6) else (outTo pstR ws n, 0)) = ([], 6) := by
    split
    ·rfl
    ·rename_i h1
     rw [if_pos]
     exact fun h2 => hS ⟨by simpa using h1, h2⟩
   rw [hR]
   split
   ·rfl
   ·rename_i h1
    have h1 : okTo pstI ws n = true := by simpa using h1
    rw [if_pos]
    rw [Classical.or_iff_not_imp_left]
    intro h2 h3
    have h2 : (stxAns (outTo pstI ws n)).2 = 0 := Classical.not_not.1 h2
    rw [stx_cod] at h2
    obtain ⟨h4, h5, h6⟩ := stx_zero h2
    rw [hlI] at h4 h5 h6
    rw [h6] at h3
    have h3 : txtTo (outTo pstI ws n) n = t := h3
    rw [txt_join, ← hj] at h3
    have hk : ∀ k, k < n → (wordS (pstI (getw ws k)).2).length ≤ (getw ws k).length ∧ ((wordS (pstI (getw ws k)).2).length = (getw ws k).length → pstR (getw ws k) = pstI (getw ws k)) := fun k hk => by
     refine step_I (ok_all h1 k hk) ?_
     have := fitTo_at h4 hk
     rwa [out_get hk] at this
    have hwl := wordsTo_len (outTo pstI ws n) n
    have hlen : Lib.lens (wordsTo (outTo pstI ws n) n) = Lib.lens ws := by
     have a1 := join_len hne
     have a2 := join_len (A := wordsTo (outTo pstI ws n) n) (fun e => by
      have h1 := List.length_eq_zero_iff.2 e
      exact hne (List.length_eq_zero_iff.1 (by omega)))
     rw [h3] at a2
     omega
    have hall := lens_eq (wordsTo (outTo pstI ws n) n) ws (by omega) (fun k hkk => by
     rw [hwl] at hkk
     rw [words_get _ hkk, out_get hkk]
     exact (hk k hkk).1) hlen
    have hk2 : ∀ k, k < n → pstR (getw ws k) = pstI (getw ws k) := fun k hkk => by
     have := hall k (by omega)
     rw [words_get _ hkk, out_get hkk] at this
     exact (hk k hkk).2 this
    exact hS ⟨ok_of fun k hkk => by rw [hk2 k hkk]; exact ok_all h1 k hkk, by rw [out_eq hk2]; exact h2⟩
theorem dec_cons {n : Int} (h : 10 ≤ n) : decW n = decW (n / 10) ++ [UInt8.ofNat (48 + (n % 10).toNat)] := by
 have h1 : (n / 10).toNat = n.toNat / 10 := by omega
 have h2 : (n % 10).toNat = n.toNat % 10 := by omega
 unfold decW
 rw [h1, h2]
 conv => lhs; rw [Lib.decDigits]
 rw [dif_neg (by omega)]
theorem dec_size : ∀ (k : Nat) (n : Int), 0 ≤ n → n.toNat ≤ k → (decW n).length ≤ n.toNat + 1
 | k, n, h0, hk => by
   by_cases h : n < 10
   ·obtain ⟨j, rfl⟩ : ∃ j : Nat, n = (j : Int) := ⟨n.toNat, by omega⟩
    rw [decW_lt (by omega)]; simp
   ·cases k with
    | zero => omega
    | succ k =>
      rw [dec_cons (by omega), List.length_append]
      have := dec_size k (n / 10) (by omega) (by omega)
      simp; omega
set_option maxRecDepth 100000 in
set_option maxHeartbeats 2000000 in
theorem dec_step (n : Int) (h : 10 ≤ n) (hn : n ≤ 1000000000000000) (IH : ∀ w : World, Calls Tryd.prog 28 #[.int .i64 (n / 10)] w fun e w' => e = .returned (.string (bs (decW (n / 10)))) ∧ Below w.heap.size w w') (w : World) :
  Calls Tryd.prog 28 #[.int .i64 n] w fun e w' => e = .returned (.string (bs (decW n))) ∧ Below w.heap.size w w' := by
 obtain ⟨m, hm⟩ : ∃ m, n / 10 = m := ⟨_, rfl⟩
 obtain ⟨r, hr⟩ : ∃ r : Nat, n % 10 = (r : Int) := ⟨(n % 10).toNat, by omega⟩
 have hr9 : r < 10 := by omega
 obtain ⟨d, hd⟩ : ∃ d : Int, ((48 + r : Nat) : Int) = d := ⟨_, rfl⟩
 have hq : n.tdiv 10 = m := by rw [Int.tdiv_eq_ediv_of_nonneg (by omega), hm]
 have hq2 : n.tmod 10 = (r : Int) := by rw [Int.tmod_eq_emod_of_nonneg (by omega), hr]
 have hw0 : IntKind.i64.wrap m = m := IntWalk.i64_in _ (by omega)
 have hw1 : IntKind.i64.wrap (r : Int) = (r : Int) := IntWalk.i64_in _ (by omega)
 have hw2 : IntKind.i64.wrap (48 + (r : Int)) = d := by rw [IntWalk.i64_in _ (by omega)]; omega
 have hw3 : IntKind.u8.wrap d = d := by
  rw [← hd]
  have : r = 0 ∨ r = 1 ∨ r = 2 ∨ r = 3 ∨ r = 4 ∨ r = 5 ∨ r = 6 ∨ r = 7 ∨ r = 8 ∨ r = 9 := by omega
  rcases this with rfl | rfl | rfl | rfl | rfl | rfl | rfl | rfl | rfl | rfl <;> decide
 obtain ⟨s1, hs1⟩ : ∃ s1, bs [UInt8.ofNat (48 + r)] = s1 := ⟨_, rfl⟩
 obtain ⟨s0, hs0⟩ : ∃ s0, bs (decW m) = s0 := ⟨_, rfl⟩
 obtain ⟨s2, hs2⟩ : ∃ s2, bs (decW n) = s2 := ⟨_, rfl⟩
 have hcv : ∀ (b : Nat) (w' : World), w'.cell? ⟨b, 0, none⟩ = some (.int .u8 d) → (convert 55 9 (.slice (some ⟨b, 0, none⟩) 1 1)).run Tryd.prog w' = .ok (.string s1) w' := fun b w' hc => by
  rw [conv1 b (48 + r) (by omega) w' (by rw [hc, ← hd]), ← hs1]; rfl
 have hcvA := fun w' : World => hcv w'.heap.size (w'.alloc (.cells #[.int .u8 d] 5)) (cell_of_block (heap_alloc_self w' _) 0)
 have hap : s0 ++ s1 = s2 := by
  rw [← hs0, ← hs1, ← hs2, bs_app, dec_cons h, hm, hr]; rfl
 have hz0 : s0.size ≤ 1000000000000001 := by
  have := dec_size m.toNat m (by omega) (Nat.le_refl _)
  rw [← hs0, bs_size]; omega
 have hz1 : s1.size = 1 := by rw [← hs1]; rfl
 have hg1 : s0.size + s1.size ≤ 9223372036854775807 := by omega
 have hg2 : ¬ 9223372036854775807 < s0.size + s1.size := by omega
 have hg3 : s0.size + 1 ≤ 9223372036854775807 := by omega
 rw [hm] at IH
 simp only [hs0] at IH
 have hn10 : ¬ n < 10 := by omega
 have hn10d : decide (n < 10) = false := decide_eq_false hn10
 have Hc := Lib.hid IH; clear IH
 have Hn := Lib.hid (And.intro hs2 (And.intro hm (And.intro hr hd))); clear hs0 hs1 hs2 hm hr hd
 have hbD : Below w.heap.size w w.drew := (Below.refl _ _).drew
 rw [Hn.out.1]
 go_enter Tryd.func28, Tryd.ntmps28
 go_wp2_with fail
 refine wp_region_noPanic ?_
 refine wp_region_held_drew (S := fun _ => True) (by kernel_rfl) trivial (fun hHeld => ?_)
 (refine wpAnyH_take (i := 0) (v := .int .i64 n) rfl (by kernel_rfl) (by kernel_rfl) (by kernel_rfl) (fun _ _ _ h => h) (Or.inl ⟨by kernel_rfl, fun w hSw => by (try dsimp only at hSw); go_split_ands; go_simp⟩) (by assumption) ?_; simp only [Act.put, List.setIfInBounds_toArray, List.set_cons_zero, List.set_cons_succ])
 (refine wpAnyH_take (i := 1) (v := .int .i64 m) rfl (by kernel_rfl) (by kernel_rfl) (by kernel_rfl) (fun _ _ _ h => h) (Or.inl ⟨by kernel_rfl, fun w hSw => by (try dsimp only at hSw); go_split_ands; go_simp⟩) (by assumption) ?_; simp only [Act.put, List.setIfInBounds_toArray, List.set_cons_zero, List.set_cons_succ])
 (refine wpAnyH_take (i := 3) (v := .int .i64 n) rfl (by kernel_rfl) (by kernel_rfl) (by kernel_rfl) (fun _ _ _ h => h) (Or.inl ⟨by kernel_rfl, fun w hSw => by (try dsimp only at hSw); go_split_ands; go_simp⟩) (by assumption) ?_; simp only [Act.put, List.setIfInBounds_toArray, List.set_cons_zero, List.set_cons_succ])
 (refine wpAnyH_take (i := 4) (v := .int .i64 (r : Int)) rfl (by kernel_rfl) (by kernel_rfl) (by kernel_rfl) (fun _ _ _ h => h) (Or.inl ⟨by kernel_rfl, fun w hSw => by (try dsimp only at hSw); go_split_ands; go_simp⟩) (by assumption) ?_; simp only [Act.put, List.setIfInBounds_toArray, List.set_cons_zero, List.set_cons_succ])
 (refine wpAnyH_take (i := 5) (v := .int .i64 d) rfl (by kernel_rfl) (by kernel_rfl) (by kernel_rfl) (fun _ _ _ h => h) (Or.inl ⟨by kernel_rfl, fun w hSw => by (try dsimp only at hSw); go_split_ands; go_simp⟩) (by assumption) ?_; simp only [Act.put, List.setIfInBounds_toArray, List.set_cons_zero, List.set_cons_succ])
 (refine wpAnyH_take (i := 6) (v := .int .u8 d) rfl (by kernel_rfl) (by kernel_rfl) (by kernel_rfl) (fun _ _ _ h => h) (Or.inl ⟨by kernel_rfl, fun w hSw => by (try dsimp only at hSw); go_split_ands; go_simp⟩) (by assumption) ?_; simp only [Act.put, List.setIfInBounds_toArray, List.set_cons_zero, List.set_cons_succ])
 obtain ⟨wd, hwd⟩ : ∃ wd, wd = w.drew := ⟨_, rfl⟩
 rw [← hwd] at hbD ⊢
 clear hwd
 refine wpAnyH_ready (rs := [2, 7]) (by kernel_rfl) (by simp) (AllReadyH.cons rfl (fun K hK => ?_) (AllReadyH.cons rfl (fun K hK => ?_) AllReadyH.nil))
 ·go_simp
  go_at_call 28
  refine (Hc.out _).mono ?_
  rintro e' w3 ⟨rfl, hb3⟩
  dsimp only
  (refine hK.out _ _ trivial (fun hHeld => ?_); clear hK K; (try simp only [Act.put, List.setIfInBounds_toArray, List.set_cons_zero, List.set_cons_succ]))
  have hcv3 := hcvA w3
  (refine wpAnyH_ready (rs := [7]) (by kernel_rfl) (by simp) (AllReadyH.cons rfl (fun K hK => ?_) AllReadyH.nil); go_simp)
  (refine hK.out _ _ trivial (fun hHeld => ?_); clear hK K; (try simp only [Act.put, List.setIfInBounds_toArray, List.set_cons_zero, List.set_cons_succ]))
  (refine wpAnyH_ready (rs := [8]) (by kernel_rfl) (by simp) (AllReadyH.cons rfl (fun K hK => ?_) AllReadyH.nil); go_simp)
  (refine hK.out _ _ trivial (fun hHeld => ?_); clear hK K; (try simp only [Act.put, List.setIfInBounds_toArray, List.set_cons_zero, List.set_cons_succ]))
  (refine wpAnyH_take (i := 9) (v := .string s2) rfl (by kernel_rfl) (by kernel_rfl) (by kernel_rfl) (fun _ _ _ h => h) (Or.inl ⟨by kernel_rfl, fun w hSw => by (try dsimp only at hSw); go_split_ands; go_simp⟩) (by assumption) ?_; simp only [Act.put, List.setIfInBounds_toArray, List.set_cons_zero, List.set_cons_succ])
  (refine wpAnyH_ready (rs := [10]) (by kernel_rfl) (by simp) (AllReadyH.cons rfl (fun K hK => ?_) AllReadyH.nil); go_simp)
  (refine hK.out _ _ trivial (fun hHeld => ?_); clear hK K; (try simp only [Act.put, List.setIfInBounds_toArray, List.set_cons_zero, List.set_cons_succ]))
  refine wpAnyH_done (by kernel_rfl) (NoPanic.normal ?_) _
  go_wp2_with fail
  go_ret
  exact ⟨rfl, (hbD.trans (hb3.mono hbD.size)).alloc (Nat.le_trans hbD.size hb3.size) _⟩
 ·have hcv0 := hcvA wd
  obtain ⟨wb, hwb⟩ : ∃ wb, wb = wd.alloc (.cells #[.int .u8 d] 5) := ⟨_, rfl⟩
  have hbb : Below wd.heap.size wd wb := by rw [hwb]; exact (Below.refl _ _).alloc (Nat.le_refl _) _
  have hcb : wb.cell? ⟨wd.heap.size, 0, none⟩ = some (.int .u8 d) := by rw [hwb]; exact cell_of_block (heap_alloc_self _ _) 0
  have hsb := lt_of_cell hcb
  have Hwb := Lib.hid hwb; clear hwb
  go_simp
  rw [← Hwb.out]
  (refine hK.out _ _ trivial (fun hHeld => ?_); clear hK K; (try simp only [Act.put, List.setIfInBounds_toArray, List.set_cons_zero, List.set_cons_succ]))
  refine wpAnyH_ready (rs := [2, 8]) (by kernel_rfl) (by simp) (AllReadyH.cons rfl (fun K hK => ?_) (AllReadyH.cons rfl (fun K hK => ?_) AllReadyH.nil))
  ·go_simp
   go_at_call 28
   refine (Hc.out _).mono ?_
   rintro e' w3 ⟨rfl, hb3⟩
   have hcv3 := hcv _ _ (cell_keep hcb (hb3.block _ hsb))
   dsimp only
   (refine hK.out _ _ trivial (fun hHeld => ?_); clear hK K; (try simp only [Act.put, List.setIfInBounds_toArray, List.set_cons_zero, List.set_cons_succ]))
   (refine wpAnyH_ready (rs := [8]) (by kernel_rfl) (by simp) (AllReadyH.cons rfl (fun K hK => ?_) AllReadyH.nil); go_simp)
   (refine hK.out _ _ trivial (fun hHeld => ?_); clear hK K; (try simp only [Act.put, List.setIfInBounds_toArray, List.set_cons_zero, List.set_cons_succ]))
   (refine wpAnyH_take (i := 9) (v := .string s2) rfl (by kernel_rfl) (by kernel_rfl) (by kernel_rfl) (fun _ _ _ h => h) (Or.inl ⟨by kernel_rfl, fun w hSw => by (try dsimp only at hSw); go_split_ands; go_simp⟩) (by assumption) ?_; simp only [Act.put, List.setIfInBounds_toArray, List.set_cons_zero, List.set_cons_succ])
   (refine wpAnyH_ready (rs := [10]) (by kernel_rfl) (by simp) (AllReadyH.cons rfl (fun K hK => ?_) AllReadyH.nil); go_simp)
   (refine hK.out _ _ trivial (fun hHeld => ?_); clear hK K; (try simp only [Act.put, List.setIfInBounds_toArray, List.set_cons_zero, List.set_cons_succ]))
   refine wpAnyH_done (by kernel_rfl) (NoPanic.normal ?_) _
   go_wp2_with fail
   go_ret
   exact ⟨rfl, (hbD.trans (hbb.mono hbD.size)).trans (hb3.mono (Nat.le_trans hbD.size hbb.size))⟩
  ·have hcv3 := hcv _ _ hcb
   go_simp
   (refine hK.out _ _ trivial (fun hHeld => ?_); clear hK K; (try simp only [Act.put, List.setIfInBounds_toArray, List.set_cons_zero, List.set_cons_succ]))
   refine wpAnyH_ready (rs := [2]) (by kernel_rfl) (by simp) (AllReadyH.cons rfl (fun K hK => ?_) AllReadyH.nil)
   go_simp
   go_at_call 28
   refine (Hc.out _).mono ?_
   rintro e' w3 ⟨rfl, hb3⟩
   dsimp only
   (refine hK.out _ _ trivial (fun hHeld => ?_); clear hK K; (try simp only [Act.put, List.setIfInBounds_toArray, List.set_cons_zero, List.set_cons_succ]))
   (refine wpAnyH_take (i := 9) (v := .string s2) rfl (by kernel_rfl) (by kernel_rfl) (by kernel_rfl) (fun _ _ _ h => h) (Or.inl ⟨by kernel_rfl, fun w hSw => by (try dsimp only at hSw); go_split_ands; go_simp⟩) (by assumption) ?_; simp only [Act.put, List.setIfInBounds_toArray, List.set_cons_zero, List.set_cons_succ])
   (refine wpAnyH_ready (rs := [10]) (by kernel_rfl) (by simp) (AllReadyH.cons rfl (fun K hK => ?_) AllReadyH.nil); go_simp)
   (refine hK.out _ _ trivial (fun hHeld => ?_); clear hK K; (try simp only [Act.put, List.setIfInBounds_toArray, List.set_cons_zero, List.set_cons_succ]))
   refine wpAnyH_done (by kernel_rfl) (NoPanic.normal ?_) _
   go_wp2_with fail
   go_ret
   exact ⟨rfl, (hbD.trans (hbb.mono hbD.size)).trans (hb3.mono (Nat.le_trans hbD.size hbb.size))⟩
theorem dec_all : ∀ (k : Nat) (n : Int), 0 ≤ n → n.toNat ≤ k → n ≤ 1000000000000000 → ∀ w : World, Calls Tryd.prog 28 #[.int .i64 n] w fun e w' => e = .returned (.string (bs (decW n))) ∧ Below w.heap.size w w'
 | k, n, h0, hk, hn, w => by
   by_cases h : n < 10
   ·obtain ⟨j, rfl⟩ : ∃ j : Nat, n = (j : Int) := ⟨n.toNat, by omega⟩
    exact dec0 j (by omega) w
   ·cases k with
    | zero => omega
    | succ k => exact dec_step n (by omega) hn (fun w => dec_all k (n / 10) (by omega) (by omega) (by omega) w) w
set_option maxRecDepth 100000 in
set_option maxHeartbeats 2000000 in
theorem l19Code_any {S : Nat → Prop} (v : Value) (l : List (Int × Int)) (W : World) (h : VS S W v l) :
  Calls Tryd.prog 14 #[v] W fun e' w' => e' = .returned (.int .i64 (codeS l)) ∧ Below W.heap.size W w' := by
 have hV := h
 obtain ⟨a, c, rfl, hm⟩ := h.form
 go_enter Tryd.func14, Tryd.ntmps14
 go_wp2_with fail
 go_loopw [3] (fun i wr => ∃ k : Nat, k ≤ l.length ∧ i = .int .i64 k ∧ fitTo l k = true ∧ Below W.heap.size W wr) (fun i _ => l.length - (intOf i).toNat)
 case atStart => exact ⟨0, Nat.zero_le _, rfl, rfl, Below.refl _ _⟩
 case round =>
  obtain ⟨k, hk, rfl, hft, hB⟩ := hrel
  have hzW := hB.size
  by_cases hkk : k < l.length
  ·obtain ⟨b1, off1, rfl, _, hc1, hc2⟩ := (hV.below hB).cell hkk
   have hstep : fitTo l (k + 1) = fitS (gets l k) := by unfold fitTo; rw [hft]; rfl
   have hkn : ¬ l.length ≤ k := by omega
   have hkd : decide (k < l.length) = true := decide_eq_true hkk
   obtain ⟨x, hx⟩ : ∃ x, gets l k = x := ⟨_, rfl⟩
   rw [hx] at hc1 hc2 hstep
   have HS := Lib.hid (And.intro hstep hx); clear hstep hx hft
   cases ho : openS x
   ·have HO := Lib.hid ho; clear ho
    cases h1 : inB x.1 0 9
    ·have H1 := Lib.hid h1; clear h1
     have hbad : codeS l = 2 := by
      have h2 : fitTo l (k + 1) = false := by rw [HS.out.1]; unfold fitS; rw [HO.out, H1.out]; rfl
      unfold codeS
      rw [if_pos (fitTo_false h2 _ (by omega))]
     have Hbad := Lib.hid hbad; clear hbad
     go_wp2_with (first | (go_at_call 26; refine (l19Open_b x _ _ HO.out).mono ?_; rintro e' w' ⟨rfl, hb⟩; have hc1' := cell_keep hc1 (hb.block _ (lt_of_cell hc1)); have hc2' := cell_keep hc2 (hb.block _ (lt_of_cell hc1))) | (go_at_call 27; refine (l01In_b x.1 0 9 _ _ H1.out).mono ?_; rintro e' w'' ⟨rfl, rfl⟩))
     go_ret
     exact ⟨by rw [Hbad.out]; rfl, hB.trans (hb.mono hzW)⟩
    ·have H1 := Lib.hid h1; clear h1
     cases h2 : inB x.2 0 11
     ·have H2 := Lib.hid h2; clear h2
      have hbad : codeS l = 2 := by
       have h2 : fitTo l (k + 1) = false := by rw [HS.out.1]; unfold fitS; rw [HO.out, H1.out, H2.out]; rfl
       unfold codeS
       rw [if_pos (fitTo_false h2 _ (by omega))]
      have Hbad := Lib.hid hbad; clear hbad
      go_wp2_with (first | (go_at_call 26; refine (l19Open_b x _ _ HO.out).mono ?_; rintro e' w' ⟨rfl, hb⟩; have hc1' := cell_keep hc1 (hb.block _ (lt_of_cell hc1)); have hc2' := cell_keep hc2 (hb.block _ (lt_of_cell hc1))) | (go_at_call 27; with_reducible refine (l01In_b x.1 0 9 _ _ H1.out).mono ?_; rintro e' w'' ⟨rfl, rfl⟩) | (go_at_call 27; with_reducible refine (l01In_b x.2 0 11 _ _ H2.out).mono ?_; rintro e' w'' ⟨rfl, rfl⟩))
      go_ret
      exact ⟨by rw [Hbad.out]; rfl, hB.trans (hb.mono hzW)⟩
     ·have H2 := Lib.hid h2; clear h2
      go_wp2_with (first | (go_at_call 26; refine (l19Open_b x _ _ HO.out).mono ?_; rintro e' w' ⟨rfl, hb⟩; have hc1' := cell_keep hc1 (hb.block _ (lt_of_cell hc1)); have hc2' := cell_keep hc2 (hb.block _ (lt_of_cell hc1))) | (go_at_call 27; with_reducible refine (l01In_b x.1 0 9 _ _ H1.out).mono ?_; rintro e' w'' ⟨rfl, rfl⟩) | (go_at_call 27; with_reducible refine (l01In_b x.2 0 11 _ _ H2.out).mono ?_; rintro e' w'' ⟨rfl, rfl⟩))
      go_roundw
      case rel => exact ⟨k + 1, by omega, by go_num, by rw [HS.out.1]; unfold fitS; rw [HO.out, H1.out, H2.out]; rfl, hB.trans (hb.mono hzW)⟩
      case measure => simp [intOf]; omega
   ·have HO := Lib.hid ho; clear ho
    go_wp2_with (go_at_call 26; refine (l19Open_b x _ _ HO.out).mono ?_; rintro e' w' ⟨rfl, hb⟩)
    go_roundw
    case rel => exact ⟨k + 1, by omega, by go_num, by rw [HS.out.1]; unfold fitS; rw [HO.out]; rfl, hB.trans (hb.mono hzW)⟩
    case measure => simp [intOf]; omega
  ·obtain rfl : k = l.length := by omega
   have hkd : decide (l.length < l.length) = false := decide_eq_false (Nat.lt_irrefl _)
   by_cases hl : 1200 < l.length
   ·have hfin : codeS l = 3 := by unfold codeS; rw [if_neg (by rw [hft]; decide), if_pos hl]
    have Hfin := Lib.hid (And.intro hfin hft); clear hfin hft
    go_wp2_with fail
    go_ret
    exact ⟨by rw [Hfin.out.1]; rfl, hB⟩
   ·have hfin : codeS l = 0 := by unfold codeS; rw [if_neg (by rw [hft]; decide), if_neg hl]
    have Hfin := Lib.hid (And.intro hfin hft); clear hfin hft
    go_wp2_with fail
    go_ret
    exact ⟨by rw [Hfin.out.1]; rfl, hB⟩
theorem inf_str : (Tryd.prog.info? 9).map (fun i => (i.zero, i.size, i.bytes)) = some (some (.string ⟨#[]⟩), 1, 16) := by kernel_rfl
def strV (b : List UInt8) : Value := .string (bs b)
theorem own_cellS {w : World} {B : Nat} {e : TypeId} {g n c : Nat} {vs : List Value} (h : w.ownsRow B e 1 (.slice (some ⟨g, 0, none⟩) n c) n vs) : g < w.heap.size ∧ n ≤ c ∧ ∀ j u, vs[j]? = some u → w.cell? ⟨g, 0 + j, none⟩ = some u := by
 rcases h.2 with ⟨e1, _⟩ | ⟨g', cap, cur, e1, h1, h2, h3, h4, h5, h6⟩
 ·cases e1
 ·cases e1
  refine ⟨lt_of_heap h2, h3, fun j u hj => ?_⟩
  rw [cell_of_block h2, Nat.zero_add, ← Array.getElem?_toList]
  rw [← h6, List.getElem?_take] at hj
  split at hj
  ·exact hj
  ·cases hj
theorem join_words (l : List (Int × Int)) {W0 wo : World} {oa : Option Addr} {oc n : Nat} {ws : List (List UInt8)} (hown : wo.ownsRow W0.heap.size 9 1 (.slice oa n oc) n (ws.map strV)) (hjl : (Lib.join ws [32]).length ≤ 140737488355328) (hwl : ws.length = n) (hn9 : n ≤ 140737488355328) :
  Calls Tryd.prog 20 #[.slice oa n oc, .string { data := #[32] }] wo fun e w' => e = .returned (.string (bs (Lib.join ws [32]))) ∧ Below wo.heap.size wo w' := by
 have hsep : (ByteArray.mk #[32]).data.toList = [32] := rfl
 by_cases hn : n = 0
 ·have hw0 : ws = [] := List.length_eq_zero_iff.1 (by omega)
  subst hw0
  subst hn
  refine (Go.Proofs.Tryd.strings_Join_none oa oc { data := #[32] } wo).mono ?_
  rintro e w ⟨he, hw⟩
  rw [Lib.join_nil]
  subst hw
  exact ⟨he, Below.refl _ _⟩
 ·rcases hown.2 with ⟨e1, e2⟩ | ⟨g, cap, cur, e1, _⟩
  ·exact absurd e2 hn
  ·cases e1
   obtain ⟨h1, h2, h3⟩ := own_cellS hown
   have hxs : (ws.map bs).length = n := by rw [List.length_map]; exact hwl
   have hmap : (ws.map bs).map (·.data.toList) = ws := by
    rw [List.map_map]
    conv => rhs; rw [← List.map_id ws]
    rfl
   have hJ := Go.Proofs.Tryd.strings_Join g 0 oc (ws.map bs) { data := #[32] } wo (fun j x hj => h3 j (.string x) (by
    rw [List.getElem?_map] at hj ⊢
    cases hw : ws[j]? with
    | none => rw [hw] at hj; cases hj
    | some y => rw [hw] at hj; cases hj; rfl)) h1 (by rw [hxs]; exact hn9) (by rw [hxs]; exact h2) (by rw [hmap, hsep]; exact hjl)
   rw [hmap, hxs, hsep] at hJ
   exact hJ
set_option maxRecDepth 100000 in
set_option maxHeartbeats 8000000 in
theorem StepsText_any {S : Nat → Prop} (v : Value) (l : List (Int × Int)) (W : World) (h : VS S W v l) (hlen : l.length ≤ 100000000) :
  Calls Tryd.prog 8 #[v] W fun e' w' => e' = .returned (.tuple #[.string (bs (stxAns l).1), .int .i64 (stxAns l).2]) ∧ Below W.heap.size W w' := by
 have hV := h
 obtain ⟨a, c, rfl, hm⟩ := h.form
 obtain ⟨i0, gi, gz0, gz1, gz2⟩ := info_parts inf_str
 have hown0 := own_lit0 W W.heap.size 9 1 (Nat.le_refl _)
 have hbl : Below W.heap.size W (W.alloc (.cells #[] 9)) := (Below.refl _ _).alloc (Nat.le_refl _) _
 have HO0 := Lib.hid (And.intro hown0 hbl); clear hown0 hbl
 go_enter Tryd.func8, Tryd.ntmps8
 go_wp2_with fail
 go_loopw [4, 10] (fun ov i wr => ∃ k : Nat, k ≤ l.length ∧ i = .int .i64 k ∧ fitTo l k = true ∧ wr.ownsRow W.heap.size 9 1 ov k ((wordsTo l k).map strV) ∧ Below W.heap.size W wr) (fun _ i _ => l.length - (intOf i).toNat)
 case atStart => exact ⟨0, Nat.zero_le _, rfl, rfl, HO0.out.1, HO0.out.2⟩
 case round =>
  obtain ⟨k, hk, rfl, hft, hown, hB⟩ := hrel
  have hzW := hB.size
  obtain ⟨oa, oc, rfl, ho1, ho2⟩ := own_form hown
  obtain ⟨wo, rfl⟩ : ∃ q, q = wr := ⟨_, rfl⟩
  by_cases hkk : k < l.length
  ·obtain ⟨b1, off1, rfl, _, hc1, hc2⟩ := (hV.below hB).cell hkk
   have hkn : ¬ l.length ≤ k := by omega
   have hkd : decide (k < l.length) = true := decide_eq_true hkk
   have hwstep : wordsTo l (k + 1) = wordsTo l k ++ [wordS (gets l k)] := rfl
   have hfstep : fitTo l (k + 1) = fitS (gets l k) := by unfold fitTo; rw [hft]; rfl
   obtain ⟨x, hx⟩ : ∃ x, gets l k = x := ⟨_, rfl⟩
   rw [hx] at hc1 hc2 hwstep hfstep
   have HS := Lib.hid (And.intro hwstep (And.intro hfstep (And.intro hx (And.intro hown hB)))); clear hwstep hfstep hx hft hown hB
   obtain ⟨wx, hwx, hBx, hzx, HZx, hcx, hhx⟩ := box_facts wo #[.int .i64 x.1, .int .i64 x.2] 37
   cases ho : openS x
   ·have HO := Lib.hid ho; clear ho
    cases h1 : inB x.1 0 9
    ·have H1 := Lib.hid h1; clear h1
     have hbad : stxAns l = ([], 2) := by
      have h2 : fitTo l (k + 1) = false := by rw [HS.out.2.1]; unfold fitS; rw [HO.out, H1.out]; rfl
      unfold stxAns
      rw [if_pos (fitTo_false h2 _ (by omega))]
     have Hbad := Lib.hid hbad; clear hbad
     go_wp2_with fail
     rw [← hwx]
     refine (isOpenStep_b x _ _ HO.out).mono ?_
     rintro e' w2 ⟨rfl, hb2⟩
     have hb02 := hBx.trans (hb2.mono hBx.size)
     have hz02 := hb02.size
     have hown2 := own_chg HS.out.2.2.2.1 (Chg.of_below (F := fun _ => False) hb02) (fun _ _ h => h)
     have hcx2 : ∀ o, w2.cell? ⟨wo.heap.size, o, none⟩ = (#[.int .i64 x.1, .int .i64 x.2] : Array Value)[o]? := fun o => by rw [(bcell hb2).1 _ _ hzx, hcx]
     clear hc1 hc2 hcx hhx
     go_wp2_with (go_at_call 18; refine (within_b x.1 0 9 _ _ H1.out).mono ?_; rintro e' w'' ⟨rfl, rfl⟩)
     go_ret2
     exact ⟨by rw [Hbad.out]; rfl, HS.out.2.2.2.2.trans (hb02.mono hzW)⟩
    ·have H1 := Lib.hid h1; clear h1
     cases h2 : inB x.2 0 11
     ·have H2 := Lib.hid h2; clear h2
      have hbad : stxAns l = ([], 2) := by
       have h2 : fitTo l (k + 1) = false := by rw [HS.out.2.1]; unfold fitS; rw [HO.out, H1.out, H2.out]; rfl
       unfold stxAns
       rw [if_pos (fitTo_false h2 _ (by omega))]
      have Hbad := Lib.hid hbad; clear hbad
      go_wp2_with fail
      rw [← hwx]
      refine (isOpenStep_b x _ _ HO.out).mono ?_
      rintro e' w2 ⟨rfl, hb2⟩
      have hb02 := hBx.trans (hb2.mono hBx.size)
      have hz02 := hb02.size
      have hown2 := own_chg HS.out.2.2.2.1 (Chg.of_below (F := fun _ => False) hb02) (fun _ _ h => h)
      have hcx2 : ∀ o, w2.cell? ⟨wo.heap.size, o, none⟩ = (#[.int .i64 x.1, .int .i64 x.2] : Array Value)[o]? := fun o => by rw [(bcell hb2).1 _ _ hzx, hcx]
      clear hc1 hc2 hcx hhx
      go_wp2_with (first | (go_at_call 18; with_reducible refine (within_b x.1 0 9 _ _ H1.out).mono ?_; rintro e' w'' ⟨rfl, rfl⟩) | (go_at_call 18; with_reducible refine (within_b x.2 0 11 _ _ H2.out).mono ?_; rintro e' w'' ⟨rfl, rfl⟩))
      go_ret2
      exact ⟨by rw [Hbad.out]; rfl, HS.out.2.2.2.2.trans (hb02.mono hzW)⟩
     ·have H2 := Lib.hid h2; clear h2
      have hr1 := inB_iff.1 H1.out
      have hr2 := inB_iff.1 H2.out
      have hw : wordS x = decW x.1 ++ [47] ++ decW x.2 := by unfold wordS; rw [HO.out]; rfl
      have hd1 := dec_small hr1.1 (Int.le_trans hr1.2 (by omega))
      have hd2 := dec_small hr2.1 hr2.2
      have hC1 := fun w => text_small x.1 hr1.1 (Int.le_trans hr1.2 (by omega)) w
      have hC2 := fun w => text_small x.2 hr2.1 hr2.2 w
      obtain ⟨d1, hd1e⟩ : ∃ d, bs (decW x.1) = d := ⟨_, rfl⟩
      obtain ⟨d2, hd2e⟩ : ∃ d, bs (decW x.2) = d := ⟨_, rfl⟩
      obtain ⟨s2, hs2⟩ : ∃ s, bs (decW x.1 ++ [47]) = s := ⟨_, rfl⟩
      obtain ⟨s3, hs3⟩ : ∃ s, bs (decW x.1 ++ [47] ++ decW x.2) = s := ⟨_, rfl⟩
      have ha2 : d1 ++ ({ data := #[47] } : ByteArray) = s2 := by rw [← hd1e, ← hs2]; exact bs_app _ [47]
      have ha3 : s2 ++ d2 = s3 := by rw [← hs2, ← hd2e, ← hs3]; exact bs_app _ _
      have hq1 : d1.size ≤ 2 := by rw [← hd1e, bs_size]; omega
      have hq2 : d2.size ≤ 2 := by rw [← hd2e, bs_size]; omega
      have hz3 : s2.size ≤ 100 := by rw [← hs2, bs_size, List.length_append]; simp; omega
      have hg2 : ¬ 9223372036854775807 < d1.size + 1 := by omega
      have hg3 : ¬ 9223372036854775807 < s2.size + d2.size := by omega
      have hnx : (wordsTo l (k + 1)).map strV = (wordsTo l k).map strV ++ [.string s3] := by
       rw [HS.out.1, hw, List.map_append, ← hs3]; rfl
      simp only [hd1e] at hC1
      simp only [hd2e] at hC2
      have HX := Lib.hid (And.intro hnx (And.intro hC1 hC2)); clear hr1 hr2 hnx hd1 hd2 hw hC1 hC2 hd1e hd2e hs2 hs3
      go_wp2_with fail
      rw [← hwx]
      refine (isOpenStep_b x _ _ HO.out).mono ?_
      rintro e' w2 ⟨rfl, hb2⟩
      have hb02 := hBx.trans (hb2.mono hBx.size)
      have hz02 := hb02.size
      have hown2 := own_chg HS.out.2.2.2.1 (Chg.of_below (F := fun _ => False) hb02) (fun _ _ h => h)
      have hcx2 : ∀ o, w2.cell? ⟨wo.heap.size, o, none⟩ = (#[.int .i64 x.1, .int .i64 x.2] : Array Value)[o]? := fun o => by rw [(bcell hb2).1 _ _ hzx, hcx]
      clear hc1 hc2 hcx hhx
      have hS2 : w2.cell? ⟨wo.heap.size, 0, none⟩ = some (.int .i64 x.1) ∧ w2.cell? ⟨wo.heap.size, 1, none⟩ = some (.int .i64 x.2) := ⟨hcx2 0, hcx2 1⟩
      go_wp2_with (first | (go_at_call 18; with_reducible refine (within_b x.1 0 9 _ _ H1.out).mono ?_; rintro e' w'' ⟨rfl, rfl⟩) | (go_at_call 18; with_reducible refine (within_b x.2 0 11 _ _ H2.out).mono ?_; rintro e' w'' ⟨rfl, rfl⟩))
      clear hcx2
      refine wp_region_noPanic ?_
      refine wp_region_held_drew (S := fun w' => w'.cell? ⟨wo.heap.size, 0, none⟩ = some (.int .i64 x.1) ∧ w'.cell? ⟨wo.heap.size, 1, none⟩ = some (.int .i64 x.2)) (by kernel_rfl) ⟨cell_keep hS2.1 rfl, cell_keep hS2.2 rfl⟩ (fun hHeld => ?_)
      (refine wpAnyH_take (i := 0) (v := .slice oa k oc) rfl (by kernel_rfl) (by kernel_rfl) (by kernel_rfl) (fun _ _ _ h => h) (Or.inl ⟨by kernel_rfl, fun w hSw => by (try dsimp only at hSw); go_split_ands; go_simp⟩) (by assumption) ?_; simp only [Act.put, List.setIfInBounds_toArray, List.set_cons_zero, List.set_cons_succ])
      (refine wpAnyH_take (i := 1) (v := .pointer (some ⟨wo.heap.size, 0, none⟩)) rfl (by kernel_rfl) (by kernel_rfl) (by kernel_rfl) (fun _ _ _ h => h) (Or.inl ⟨by kernel_rfl, fun w hSw => by (try dsimp only at hSw); go_split_ands; go_simp⟩) (by assumption) ?_; simp only [Act.put, List.setIfInBounds_toArray, List.set_cons_zero, List.set_cons_succ])
      (refine wpAnyH_take (i := 2) (v := .int .i64 x.1) rfl (by kernel_rfl) (by kernel_rfl) (by kernel_rfl) (fun _ _ _ h => h) (Or.inl ⟨by kernel_rfl, fun w hSw => by (try dsimp only at hSw); go_split_ands; go_simp⟩) (by assumption) ?_; simp only [Act.put, List.setIfInBounds_toArray, List.set_cons_zero, List.set_cons_succ])
      (refine wpAnyH_take (i := 5) (v := .pointer (some ⟨wo.heap.size, 1, none⟩)) rfl (by kernel_rfl) (by kernel_rfl) (by kernel_rfl) (fun _ _ _ h => h) (Or.inl ⟨by kernel_rfl, fun w hSw => by (try dsimp only at hSw); go_split_ands; go_simp⟩) (by assumption) ?_; simp only [Act.put, List.setIfInBounds_toArray, List.set_cons_zero, List.set_cons_succ])
      (refine wpAnyH_take (i := 6) (v := .int .i64 x.2) rfl (by kernel_rfl) (by kernel_rfl) (by kernel_rfl) (fun _ _ _ h => h) (Or.inl ⟨by kernel_rfl, fun w hSw => by (try dsimp only at hSw); go_split_ands; go_simp⟩) (by assumption) ?_; simp only [Act.put, List.setIfInBounds_toArray, List.set_cons_zero, List.set_cons_succ])
      have hb2d : Below w2.heap.size w2 w2.drew := (Below.refl _ _).drew
      have hownd := own_chg hown2 (Chg.of_below (F := fun _ => False) hb2d) (fun _ _ h => h)
      obtain ⟨wd, hwd⟩ : ∃ wd, wd = w2.drew := ⟨_, rfl⟩
      rw [← hwd] at hHeld hb2d hownd ⊢
      clear hwd hS2 hown2
      refine wpAnyH_ready (rs := [3]) (by kernel_rfl) (by simp) (AllReadyH.cons rfl (fun K hK => ?_) AllReadyH.nil)
      go_simp
      go_at_call 19
      refine (HX.out.2.1 _).mono ?_
      rintro e' w5 ⟨rfl, rfl⟩
      dsimp only
      (refine hK.out _ _ hHeld (fun hHeld => ?_); clear hK K; (try simp only [Act.put, List.setIfInBounds_toArray, List.set_cons_zero, List.set_cons_succ]))
      (refine wpAnyH_take (i := 4) (v := .string s2) rfl (by kernel_rfl) (by kernel_rfl) (by kernel_rfl) (fun _ _ _ h => h) (Or.inl ⟨by kernel_rfl, fun w hSw => by (try dsimp only at hSw); go_split_ands; go_simp⟩) (by assumption) ?_; simp only [Act.put, List.setIfInBounds_toArray, List.set_cons_zero, List.set_cons_succ])
      refine wpAnyH_ready (rs := [7]) (by kernel_rfl) (by simp) (AllReadyH.cons rfl (fun K hK => ?_) AllReadyH.nil)
      go_simp
      go_at_call 19
      refine (HX.out.2.2 _).mono ?_
      rintro e' w6 ⟨rfl, rfl⟩
      dsimp only
      (refine hK.out _ _ hHeld (fun hHeld => ?_); clear hK K; (try simp only [Act.put, List.setIfInBounds_toArray, List.set_cons_zero, List.set_cons_succ]))
      (refine wpAnyH_take (i := 8) (v := .string s3) rfl (by kernel_rfl) (by kernel_rfl) (by kernel_rfl) (fun _ _ _ h => h) (Or.inl ⟨by kernel_rfl, fun w hSw => by (try dsimp only at hSw); go_split_ands; go_simp⟩) (by assumption) ?_; simp only [Act.put, List.setIfInBounds_toArray, List.set_cons_zero, List.set_cons_succ])
      obtain ⟨wb, hwb⟩ : ∃ wb, wb = w6.alloc (.cells #[.string s3] 9) := ⟨_, rfl⟩
      have hbb : Below w6.heap.size w6 wb := by rw [hwb]; exact (Below.refl _ _).alloc (Nat.le_refl _) _
      have hownb := own_chg hownd (Chg.of_below (F := fun _ => False) hbb) (fun _ _ h => h)
      have hnb : ∀ j u, [Value.string s3][j]? = some u → wb.cell? ((⟨w6.heap.size, 0, none⟩ : Addr).add j) = some u := by rw [hwb]; exact World.news_of_block (heap_alloc_new _ _)
      have hSb : wb.cell? ⟨wo.heap.size, 0, none⟩ = some (.int .i64 x.1) ∧ wb.cell? ⟨wo.heap.size, 1, none⟩ = some (.int .i64 x.2) := ⟨cell_keep hHeld.1 (hbb.block _ (lt_of_cell hHeld.1)), cell_keep hHeld.2 (hbb.block _ (lt_of_cell hHeld.2))⟩
      have hzb : W.heap.size ≤ wb.heap.size := Nat.le_trans (Nat.le_trans (Nat.le_trans hzW hb02.size) hb2d.size) hbb.size
      have Hwb := Lib.hid hwb; clear hwb
      refine wpAnyH_ready (rs := [9]) (by kernel_rfl) (by simp) (AllReadyH.cons rfl (fun K hK => ?_) AllReadyH.nil)
      go_simp
      rw [← Hwb.out]
      (refine hK.out _ _ hSb (fun hHeld => ?_); clear hK K; (try simp only [Act.put, List.setIfInBounds_toArray, List.set_cons_zero, List.set_cons_succ]))
      refine wpAnyH_ready (rs := [10]) (by kernel_rfl) (by simp) (AllReadyH.cons rfl (fun K hK => ?_) AllReadyH.nil)
      refine step_append_lies _ (by rfl) _ _ _ (by rfl) W.heap.size 9 i0 _ 1 16 Tryd.underlying40 gi gz0 gz1 gz2 rfl (by omega) _ k _ (by rfl) hownb ⟨_, 0, none⟩ 1 1 [.string s3] (by rfl) (by rfl) hnb (by simp [Value.oneCell']) (by omega) (by unfold maxLen; omega) (by omega) hzb _ rfl ?_
      intro gg cap8 w8 hown8 hgrow8 hat8 hlt8
      have hB8 : Below W.heap.size wb w8 := (Below.refl _ _).grown hgrow8 hzb (fun g hg => (hownb.lt g hg).1)
      have hS8 : w8.cell? ⟨wo.heap.size, 0, none⟩ = some (.int .i64 x.1) ∧ w8.cell? ⟨wo.heap.size, 1, none⟩ = some (.int .i64 x.2) := by
       have hne : wb.heap.size ≥ 0 := Nat.zero_le _
       have hz8 : ∀ g, Value.ownBlock (.slice oa k oc) = some g → g < wo.heap.size := fun g hg => (HS.out.2.2.2.1.lt g hg).2
       have hk8 : w8.heap[wo.heap.size]? = wb.heap[wo.heap.size]? := hgrow8.block _ (lt_of_cell hSb.1) (fun e => by have := hz8 _ e.symm; omega)
       exact ⟨cell_keep hSb.1 hk8, cell_keep hSb.2 hk8⟩
      have HB := Lib.hid (And.intro hown8 ((HS.out.2.2.2.2.trans (hb02.mono hzW)).trans (((hb2d.mono (Nat.le_trans hzW hb02.size)).trans (hbb.mono (Nat.le_trans (Nat.le_trans hzW hb02.size) hb2d.size))).trans hB8))); clear hown8 hgrow8 hat8 hlt8 hB8
      (refine hK.out _ _ hS8 (fun hHeld => ?_); clear hK K; (try simp only [Act.put, List.setIfInBounds_toArray, List.set_cons_zero, List.set_cons_succ]))
      (refine wpAnyH_ready (rs := [11]) (by kernel_rfl) (by simp) (AllReadyH.cons rfl (fun K hK => ?_) AllReadyH.nil); go_simp)
      (refine hK.out _ _ hS8 (fun hHeld => ?_); clear hK K; (try simp only [Act.put, List.setIfInBounds_toArray, List.set_cons_zero, List.set_cons_succ]))
      refine wpAnyH_done (by kernel_rfl) (NoPanic.normal ?_) _
      go_wp2_with fail
      go_roundw
      case rel => exact ⟨k + 1, by omega, by go_num, by rw [HS.out.2.1]; unfold fitS; rw [HO.out, H1.out, H2.out]; rfl, by rw [HX.out.1]; exact HB.out.1, HB.out.2⟩
      case measure => simp [intOf]; omega
   ·have HO := Lib.hid ho; clear ho
    have hw : wordS x = [43] := by unfold wordS; rw [if_pos HO.out]
    have Hw := Lib.hid hw; clear hw
    go_wp2_with fail
    rw [← hwx]
    refine (isOpenStep_b x _ _ HO.out).mono ?_
    rintro e' w2 ⟨rfl, hb2⟩
    have hb02 := hBx.trans (hb2.mono hBx.size)
    have hz02 := hb02.size
    have hown2 := own_chg HS.out.2.2.2.1 (Chg.of_below (F := fun _ => False) hb02) (fun _ _ h => h)
    have hcx2 : ∀ o, w2.cell? ⟨wo.heap.size, o, none⟩ = (#[.int .i64 x.1, .int .i64 x.2] : Array Value)[o]? := fun o => by rw [(bcell hb2).1 _ _ hzx, hcx]
    clear hc1 hc2 hcx hhx
    clear hcx2
    go_wp2_with ((at_builtin; refine wp_app1 _ rfl _ _ 40 rfl W.heap.size 9 (.string ⟨#[]⟩) 16 Tryd.underlying40 inf_str rfl _ _ _ rfl hown2 (.string ⟨#[43]⟩) _ rfl rfl (by omega) (by omega) (by omega) ?_; intro v1 w1 hown1 hgrow1 hblk1 hB1); refine Hid.out ?_)
    refine Lib.hid ?_
    have HB := Lib.hid (And.intro hown1 hB1); clear hown1 hB1 hown2
    obtain ⟨na, nc, rfl, _, _⟩ := own_form HB.out.1
    go_wp2_with fail
    go_roundw
    case rel => exact ⟨k + 1, by omega, by go_num, by rw [HS.out.2.1]; unfold fitS; rw [HO.out]; rfl, by rw [HS.out.1, Hw.out, List.map_append]; exact HB.out.1, (HS.out.2.2.2.2.trans (hb02.mono hzW)).trans HB.out.2⟩
    case measure => simp [intOf]; omega
  ·obtain rfl : k = l.length := by omega
   have hkd : decide (l.length < l.length) = false := decide_eq_false (Nat.lt_irrefl _)
   by_cases hl : 1200 < l.length
   ·have hans : stxAns l = ([], 3) := by
     unfold stxAns
     rw [if_neg (by rw [hft]; decide), if_pos hl]
    have H := Lib.hid (And.intro hans hB); clear hans hB hft hown
    go_wp2_with fail
    go_ret2
    exact ⟨by rw [H.out.1]; rfl, H.out.2⟩
   ·have hans : stxAns l = (txtTo l l.length, 0) := by
     unfold stxAns
     rw [if_neg (by rw [hft]; decide), if_neg hl]
    have hjl : (Lib.join (wordsTo l l.length) [32]).length ≤ 140737488355328 := by
     rw [← txt_join]
     have := txt_len hft l.length (Nat.le_refl _)
     omega
    have hwl := wordsTo_len l l.length
    have hcall := join_words l hown hjl hwl (by omega)
    rw [← txt_join] at hcall
    have H := Lib.hid (And.intro hans (And.intro hB hcall)); clear hans hB hft hown hjl hwl hcall
    go_wp2_with fail
    refine H.out.2.2.mono ?_
    rintro e' w2 ⟨rfl, hb2⟩
    go_wp2_with fail
    go_ret2
    exact ⟨by rw [H.out.1]; rfl, H.out.2.1.trans (hb2.mono hzW)⟩
end Go.Proofs.YtmjplkbmhdkggaaDoor
