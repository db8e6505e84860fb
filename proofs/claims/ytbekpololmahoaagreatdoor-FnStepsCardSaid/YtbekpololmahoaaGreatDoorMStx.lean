/- Plain: steps as text. No program here. No conditions. -/
import Derived.Lib.Join
import Derived.Lib.ItoaNum
import Derived.Shelf.Strings.OnBuilder
import Derived.Shelf.Strconv.Itoa4
import Derived.Test.YtbekpololmahoaaGreatDoorProg
import Derived.Deep.RegionHeld3
import Derived.Deep.AppendLies
import Derived.Laws.BytesArg
import Derived.Lib.SplitLaws
import Derived.Lib.ParseIntB
import Derived.Test.YtbekpololmahoaaGreatDoorMCount
import Derived.Test.YtbekpololmahoaaGreatDoorMLib
namespace Go.Proofs.YtbekpololmahoaaGreatDoor
open Go.RowKit
set_option linter.unusedVariables false
set_option linter.unusedSimpArgs false
/-- The string of a list of bytes. -/
def bs (l : List UInt8) : ByteArray := ⟨l.toArray⟩
theorem bs_app (a b : List UInt8) : bs a ++ bs b = bs (a ++ b) := by
 apply ByteArray.ext
 simp [bs]
theorem bs_data (l : List UInt8) : (bs l).data.toList = l := rfl
theorem bs_size (l : List UInt8) : (bs l).size = l.length := by simp [bs, ByteArray.size]
def decW (n : Int) : List UInt8 := Lib.decDigits n.toNat
def wordS (x : Int × Int) : List UInt8 := if openS x = true then [43] else decW x.1 ++ [47] ++ decW x.2
def fitS (x : Int × Int) : Bool := openS x || (inB x.1 0 9 && inB x.2 0 11)
def fitTo (l : List (Int × Int)) : Nat → Bool
 | 0 => true
 | k + 1 => fitTo l k && fitS (gets l k)
def wordsTo (l : List (Int × Int)) : Nat → List (List UInt8)
 | 0 => []
 | k + 1 => wordsTo l k ++ [wordS (gets l k)]
def txtTo (l : List (Int × Int)) : Nat → List UInt8
 | 0 => []
 | k + 1 => txtTo l k ++ (if 0 < k then [32] else []) ++ wordS (gets l k)
def stxAns (l : List (Int × Int)) : List UInt8 × Int :=
 if fitTo l l.length = false then ([], 2) else if 1200 < l.length then ([], 3) else (txtTo l l.length, 0)
def codeS (l : List (Int × Int)) : Int := if fitTo l l.length = false then 2 else if 1200 < l.length then 3 else 0
theorem fitTo_false {l : List (Int × Int)} {k : Nat} (h : fitTo l k = false) : ∀ n, k ≤ n → fitTo l n = false := by
 intro n hn
 induction n with
 | zero => obtain rfl : k = 0 := by omega
           exact h
 | succ n ih =>
   by_cases e : k = n + 1
   ·subst e; exact h
   ·unfold fitTo; rw [ih (by omega)]; rfl
theorem fitTo_at {l : List (Int × Int)} {n k : Nat} (h : fitTo l n = true) (hk : k < n) : fitS (gets l k) = true := by
 induction n with
 | zero => omega
 | succ n ih =>
   unfold fitTo at h
   rw [Bool.and_eq_true] at h
   by_cases e : k = n
   ·subst e; exact h.2
   ·exact ih h.1 (by omega)
theorem wordsTo_len (l : List (Int × Int)) : ∀ k, (wordsTo l k).length = k
 | 0 => rfl
 | k + 1 => by simp [wordsTo, wordsTo_len l k]
theorem joinTail_snoc (sep x : List UInt8) (r : List (List UInt8)) : Lib.joinTail sep (r ++ [x]) = Lib.joinTail sep r ++ (sep ++ x) := by
 simp [Lib.joinTail]
theorem txt_join (l : List (Int × Int)) : ∀ k, txtTo l k = Lib.join (wordsTo l k) [32]
 | 0 => rfl
 | k + 1 => by
   unfold txtTo wordsTo
   rw [txt_join l k]
   have hl := wordsTo_len l k
   cases hw : wordsTo l k with
   | nil =>
     rw [hw] at hl
     obtain rfl : k = 0 := by simpa using hl.symm
     rw [List.nil_append, Lib.join_one, Lib.join_nil]
     simp
   | cons x r =>
     rw [hw] at hl
     have hk : 0 < k := by simp at hl; omega
     rw [if_pos hk, List.cons_append, Lib.join_cons, Lib.join_cons, joinTail_snoc]
     simp
theorem dec_small {n : Int} (h0 : 0 ≤ n) (h1 : n ≤ 11) : (decW n).length ≤ 2 := by
 unfold decW
 have : n = 0 ∨ n = 1 ∨ n = 2 ∨ n = 3 ∨ n = 4 ∨ n = 5 ∨ n = 6 ∨ n = 7 ∨ n = 8 ∨ n = 9 ∨ n = 10 ∨ n = 11 := by omega
 rcases this with rfl | rfl | rfl | rfl | rfl | rfl | rfl | rfl | rfl | rfl | rfl | rfl <;> (unfold Lib.decDigits; simp) <;> (unfold Lib.decDigits; simp)
theorem word_small {x : Int × Int} (h : fitS x = true) : (wordS x).length ≤ 5 := by
 unfold wordS
 by_cases ho : openS x = true
 ·rw [if_pos ho]; simp
 ·rw [if_neg ho]
  unfold fitS at h
  rw [show openS x = false by simpa using ho, Bool.false_or, Bool.and_eq_true, inB_iff, inB_iff] at h
  have h1 := dec_small h.1.1 (by omega)
  have h2 := dec_small h.2.1 h.2.2
  simp; omega
theorem txt_len {l : List (Int × Int)} {n : Nat} (h : fitTo l n = true) : ∀ k, k ≤ n → (txtTo l k).length ≤ 6 * k
 | 0, _ => Nat.le_refl _
 | k + 1, hk => by
   have h1 := txt_len h k (by omega)
   have h2 := word_small (fitTo_at h (show k < n by omega))
   unfold txtTo
   rw [List.length_append, List.length_append]
   split <;> simp <;> omega
end Go.Proofs.YtbekpololmahoaaGreatDoor
namespace Go.Proofs
open Go.Shelf
def Tryz.lays156_ren : Go.Shelf.Ren := ⟨fun | 156 => 24 | 165 => 42 | 166 => 43 | 169 => 44 | 240 => 69 | 241 => 70 | 276 => 99 | 277 => 100 | n => n, fun | 31 => 46 | 9 => 9 | 3 => 3 | 4 => 4 | 0 => 0 | 20 => 20 | 72 => 78 | 76 => 82 | 70 => 76 | 37 => 22 | 75 => 81 | 127 => 103 | 164 => 131 | 5 => 5 | 80 => 84 | n => n, fun | n => n⟩
theorem Tryz.lays156 : Go.Proofs.Lays.n156 Tryz.prog Tryz.lays156_ren := {
 mixed := by kernel_rfl
 f156 := Tryz.func24.trans (congrArg some (by kernel_rfl))
 f165 := Tryz.func42.trans (congrArg some (by kernel_rfl))
 f166 := Tryz.func43.trans (congrArg some (by kernel_rfl))
 f169 := Tryz.func44.trans (congrArg some (by kernel_rfl))
 f240 := Tryz.func69.trans (congrArg some (by kernel_rfl))
 f241 := Tryz.func70.trans (congrArg some (by kernel_rfl))
 f276 := Tryz.func99.trans (congrArg some (by kernel_rfl))
 f277 := Tryz.func100.trans (congrArg some (by kernel_rfl))
 t0 := Tryz.underlying0
 a0 := Tryz.isAgg0
 z0 := Tryz.sizeOf0
 v0 := Tryz.zeroValue0
 t3 := Tryz.underlying3
 a3 := Tryz.isAgg3
 z3 := Tryz.sizeOf3
 v3 := Tryz.zeroValue3
 t4 := Tryz.underlying4
 a4 := Tryz.isAgg4
 z4 := Tryz.sizeOf4
 v4 := Tryz.zeroValue4
 t9 := Tryz.underlying9
 a9 := Tryz.isAgg9
 z9 := Tryz.sizeOf9
 v9 := Tryz.zeroValue9
 t20 := Tryz.underlying20
 a20 := Tryz.isAgg20
 z20 := Tryz.sizeOf20
 v20 := Tryz.zeroValue20
 t31 := Tryz.underlying46
 a31 := Tryz.isAgg46
 z31 := Tryz.sizeOf46
 v31 := Tryz.zeroValue46
 t37 := Tryz.underlying22
 a37 := Tryz.isAgg22
 z37 := Tryz.sizeOf22
 v37 := Tryz.zeroValue22
 t70 := Tryz.underlying76
 a70 := Tryz.isAgg76
 z70 := Tryz.sizeOf76
 v70 := Tryz.zeroValue76
 t72 := Tryz.underlying78
 a72 := Tryz.isAgg78
 z72 := Tryz.sizeOf78
 v72 := Tryz.zeroValue78
 t75 := Tryz.underlying81
 a75 := Tryz.isAgg81
 z75 := Tryz.sizeOf81
 v75 := Tryz.zeroValue81
 t76 := Tryz.underlying82
 a76 := Tryz.isAgg82
 z76 := Tryz.sizeOf82
 v76 := Tryz.zeroValue82
 t127 := Tryz.underlying103
 a127 := Tryz.isAgg103
 z127 := Tryz.sizeOf103
 v127 := Tryz.zeroValue103
 t164 := Tryz.underlying131
 a164 := Tryz.isAgg131
 z164 := Tryz.sizeOf131
 v164 := Tryz.zeroValue131 }
theorem Tryz.Builder_Extra_156 : Builder.Extra Tryz.prog Tryz.lays156_ren := {
 sizeBuilder := by kernel_rfl
 liesBuilder := by kernel_rfl
 t5 := Tryz.underlying5
 a5 := Tryz.isAgg5
 z5 := Tryz.sizeOf5
 v5 := Tryz.zeroValue5
 infoByte := by kernel_rfl
 cellsByte := by kernel_rfl
 sizeByte := by kernel_rfl
 neB5 := by decide }
open Go.RowKit in
/-- No element: the empty string; the world is as it was. (Whatever the slice's address and capacity: a nil slice too.) (LAID: no walk: one application.) -/
theorem Tryz.strings_Join_none (a : Option Addr) (c : Nat) (sep : ByteArray) (w : World) :
  Calls Tryz.prog 24 #[.slice a 0 c, .string sep] w fun e w' => e = .returned (.string ⟨#[]⟩) ∧ w' = w := Any.strings_Join_none Tryz.lays156 Tryz.Builder_Extra_156 a c sep w
open Go.RowKit in
/-- strings.Join: "Join concatenates the elements of its first argument to create a single string. The separator string sep is placed between elements in the resulting string.": HOWEVER MANY ELEMENTS. Below the heap's end the world is as it was. (LAID: no walk: one application.) -/
theorem Tryz.strings_Join (bk o c : Nat) (xs : List ByteArray) (sep : ByteArray) (w : World) (hcells : ∀ (j : Nat) x, xs[j]? = some x → w.cell? ⟨bk, o + j, none⟩ = some (.string x)) (hbk : bk < w.heap.size) (hN : xs.length ≤ 140737488355328) (hcap : xs.length ≤ c) (hlen : (Lib.join (xs.map (·.data.toList)) sep.data.toList).length ≤ 140737488355328) :
  Calls Tryz.prog 24 #[.slice (some ⟨bk, o, none⟩) xs.length c, .string sep] w fun e w' => e = .returned (.string ⟨(Lib.join (xs.map (·.data.toList)) sep.data.toList).toArray⟩) ∧ Below w.heap.size w w' := Any.strings_Join Tryz.lays156 Tryz.Builder_Extra_156 bk o c xs sep w hcells hbk hN hcap hlen
def Tryz.lays173_ren : Go.Shelf.Ren := ⟨fun | 173 => 41 | 246 => 68 | 283 => 95 | 284 => 96 | 285 => 97 | 286 => 98 | 129 => 119 | 317 => 118 | 318 => 120 | 319 => 121 | 320 => 122 | 337 => 139 | 338 => 140 | n => n, fun | 2 => 2 | 3 => 3 | 9 => 9 | 4 => 4 | 171 => 125 | 0 => 0 | 53 => 126 | 37 => 22 | 5 => 5 | 173 => 129 | 212 => 146 | 51 => 147 | 20 => 20 | 213 => 148 | 46 => 150 | 232 => 185 | 233 => 186 | n => n, fun | 17 => 0 | 18 => 6 | 19 => 7 | n => n⟩
theorem Tryz.lays173 : Go.Proofs.Lays.n173 Tryz.prog Tryz.lays173_ren := {
 mixed := by kernel_rfl
 f129 := Tryz.func119.trans (congrArg some (by kernel_rfl))
 f173 := Tryz.func41.trans (congrArg some (by kernel_rfl))
 f246 := Tryz.func68.trans (congrArg some (by kernel_rfl))
 f283 := Tryz.func95.trans (congrArg some (by kernel_rfl))
 f284 := Tryz.func96.trans (congrArg some (by kernel_rfl))
 f285 := Tryz.func97.trans (congrArg some (by kernel_rfl))
 f286 := Tryz.func98.trans (congrArg some (by kernel_rfl))
 f317 := Tryz.func118.trans (congrArg some (by kernel_rfl))
 f318 := Tryz.func120.trans (congrArg some (by kernel_rfl))
 f319 := Tryz.func121.trans (congrArg some (by kernel_rfl))
 f320 := Tryz.func122.trans (congrArg some (by kernel_rfl))
 f337 := Tryz.func139.trans (congrArg some (by kernel_rfl))
 f338 := Tryz.func140.trans (congrArg some (by kernel_rfl))
 t0 := Tryz.underlying0
 a0 := Tryz.isAgg0
 z0 := Tryz.sizeOf0
 v0 := Tryz.zeroValue0
 t2 := Tryz.underlying2
 a2 := Tryz.isAgg2
 z2 := Tryz.sizeOf2
 v2 := Tryz.zeroValue2
 t3 := Tryz.underlying3
 a3 := Tryz.isAgg3
 z3 := Tryz.sizeOf3
 v3 := Tryz.zeroValue3
 t4 := Tryz.underlying4
 a4 := Tryz.isAgg4
 z4 := Tryz.sizeOf4
 v4 := Tryz.zeroValue4
 t5 := Tryz.underlying5
 a5 := Tryz.isAgg5
 z5 := Tryz.sizeOf5
 v5 := Tryz.zeroValue5
 t9 := Tryz.underlying9
 a9 := Tryz.isAgg9
 z9 := Tryz.sizeOf9
 v9 := Tryz.zeroValue9
 t20 := Tryz.underlying20
 a20 := Tryz.isAgg20
 z20 := Tryz.sizeOf20
 v20 := Tryz.zeroValue20
 t37 := Tryz.underlying22
 a37 := Tryz.isAgg22
 z37 := Tryz.sizeOf22
 v37 := Tryz.zeroValue22
 t46 := Tryz.underlying150
 a46 := Tryz.isAgg150
 z46 := Tryz.sizeOf150
 v46 := Tryz.zeroValue150
 t51 := Tryz.underlying147
 a51 := Tryz.isAgg147
 z51 := Tryz.sizeOf147
 v51 := Tryz.zeroValue147
 t53 := Tryz.underlying126
 a53 := Tryz.isAgg126
 z53 := Tryz.sizeOf126
 v53 := Tryz.zeroValue126
 t171 := Tryz.underlying125
 a171 := Tryz.isAgg125
 z171 := Tryz.sizeOf125
 v171 := Tryz.zeroValue125
 t173 := Tryz.underlying129
 a173 := Tryz.isAgg129
 z173 := Tryz.sizeOf129
 v173 := Tryz.zeroValue129
 t212 := Tryz.underlying146
 a212 := Tryz.isAgg146
 z212 := Tryz.sizeOf146
 v212 := Tryz.zeroValue146
 t213 := Tryz.underlying148
 a213 := Tryz.isAgg148
 z213 := Tryz.sizeOf148
 t232 := Tryz.underlying185
 a232 := Tryz.isAgg185
 z232 := Tryz.sizeOf185
 v232 := Tryz.zeroValue185
 t233 := Tryz.underlying186
 a233 := Tryz.isAgg186
 z233 := Tryz.sizeOf186
 v233 := Tryz.zeroValue186
 g17 := by kernel_rfl
 g18 := by kernel_rfl
 g19 := by kernel_rfl }
open Go.RowKit Go.Sort Go.Lib in
/-- THE ROAD WITHOUT THE TABLE: 0 <= i < 100. (LAID: no walk: one application.) -/
theorem Tryz.strconv_FormatInt_10_small (i : Nat) (hi : i < 100) (w : World) :
  Calls Tryz.prog 41 #[.int .i64 i, .int .i64 10] w fun e w' => e = .returned (.string ⟨(Lib.decDigits i).toArray⟩) ∧ w' = w := Any.strconv_FormatInt_10_small Tryz.lays173 i hi w
end Go.Proofs
namespace Go.Proofs.YtbekpololmahoaaGreatDoor
open Go.RowKit
set_option linter.unusedVariables false
set_option linter.unusedSimpArgs false
theorem text_small (n : Int) (h0 : 0 ≤ n) (h1 : n ≤ 11) (w : World) :
  Calls Tryz.prog 23 #[.int .i64 n] w fun e' w' => e' = .returned (.string (bs (decW n))) ∧ w' = w := by
 obtain ⟨k, rfl⟩ : ∃ k : Nat, n = (k : Int) := ⟨n.toNat, by omega⟩
 have hk : k < 100 := by omega
 go_enter Tryz.func23, Tryz.ntmps23
 go_wp2_with (go_at_call 41; refine (Go.Proofs.Tryz.strconv_FormatInt_10_small k hk _).mono ?_; rintro e' w' ⟨rfl, rfl⟩)
 go_ret
 exact ⟨rfl, rfl⟩
theorem conv1 (b : Nat) (x : Nat) (hx : x < 256) (w : World) (hc : w.cell? ⟨b, 0, none⟩ = some (.int .u8 (x : Int))) : (convert 22 9 (.slice (some ⟨b, 0, none⟩) 1 1)).run Tryz.prog w = .ok (.string ⟨[UInt8.ofNat x].toArray⟩) w := by
 have h := run_convert_bytes_arg (P := Tryz.prog) w 22 5 Tryz.underlying22 Tryz.underlying5 b 0 1 1 [(x : Int)] rfl (fun i hi => by
  obtain rfl : i = 0 := by omega
  simpa using hc) 9 Tryz.underlying9
 rw [h]
 congr 2
theorem decW_lt {k : Nat} (h : k < 10) : decW (k : Int) = [UInt8.ofNat (48 + k)] := by
 unfold decW Lib.decDigits
 simp [h]
set_option maxRecDepth 100000 in
theorem dec0 (k : Nat) (h : k < 10) (w : World) :
  Calls Tryz.prog 46 #[.int .i64 (k : Int)] w fun e w' => e = .returned (.string (bs (decW k))) ∧ Below w.heap.size w w' := by
 rw [decW_lt h]
 have hcv := conv1 w.heap.size (48 + k) (by omega) (w.alloc (.cells #[.int .u8 (48 + (k : Int))] 5)) (by rw [cell_of_block (heap_alloc_self _ _)]; simp)
 go_enter Tryz.func46, Tryz.ntmps46
 go_wp2_with fail
 go_ret
 exact ⟨by simp [bs], (Below.refl _ _).alloc (Nat.le_refl _) _⟩
set_option maxRecDepth 100000 in
set_option maxHeartbeats 1000000 in
theorem dec10 (w : World) :
  Calls Tryz.prog 46 #[.int .i64 10] w fun e w' => e = .returned (.string (bs (decW 10))) ∧ Below w.heap.size w w' := by
 have hcv : ∀ (b : Nat) (w' : World), w'.cell? ⟨b, 0, none⟩ = some (.int .u8 48) → (convert 22 9 (.slice (some ⟨b, 0, none⟩) 1 1)).run Tryz.prog w' = .ok (.string ⟨#[48]⟩) w' := fun b w' hc => by
  rw [conv1 b 48 (by omega) w' hc]; rfl
 have hfin : decW 10 = [49, 48] := by unfold decW Lib.decDigits; simp; unfold Lib.decDigits; simp
 rw [hfin]
 have hcall := fun w' : World => dec0 1 (by omega) w'
 simp only [show decW ((1 : Nat) : Int) = [49] from decW_lt (k := 1) (by omega)] at hcall
 have Hc := Lib.hid hcall; clear hcall hfin
 have hbD : Below w.heap.size w w.drew := (Below.refl _ _).drew
 have hcvA := fun w' : World => hcv w'.heap.size (w'.alloc (.cells #[.int .u8 48] 5)) (cell_of_block (heap_alloc_self w' _) 0)
 have hw1 : IntKind.i64.wrap 1 = 1 := IntWalk.i64_in _ (by omega)
 have hw2 : IntKind.i64.wrap 48 = 48 := IntWalk.i64_in _ (by omega)
 have hw3 : IntKind.u8.wrap 48 = 48 := by decide
 have hs49 : (bs [49]).size = 1 := rfl
 have hap : bs [49] ++ ({ data := #[48] } : ByteArray) = bs [49, 48] := bs_app [49] [48]
 go_enter Tryz.func46, Tryz.ntmps46
 go_wp2_with fail
 refine wp_region_noPanic ?_
 refine wp_region_held_drew (S := fun _ => True) (by kernel_rfl) trivial (fun hHeld => ?_)
 (refine wpAnyH_take (i := 0) (v := .int .i64 10) rfl (by kernel_rfl) (by kernel_rfl) (by kernel_rfl) (fun _ _ _ h => h) (Or.inl ⟨by kernel_rfl, fun w hSw => by (try dsimp only at hSw); go_split_ands; go_simp⟩) (by assumption) ?_; simp only [Act.put, List.setIfInBounds_toArray, List.set_cons_zero, List.set_cons_succ])
 (refine wpAnyH_take (i := 1) (v := .int .i64 1) rfl (by kernel_rfl) (by kernel_rfl) (by kernel_rfl) (fun _ _ _ h => h) (Or.inl ⟨by kernel_rfl, fun w hSw => by (try dsimp only at hSw); go_split_ands; go_simp⟩) (by assumption) ?_; simp only [Act.put, List.setIfInBounds_toArray, List.set_cons_zero, List.set_cons_succ])
 (refine wpAnyH_take (i := 3) (v := .int .i64 10) rfl (by kernel_rfl) (by kernel_rfl) (by kernel_rfl) (fun _ _ _ h => h) (Or.inl ⟨by kernel_rfl, fun w hSw => by (try dsimp only at hSw); go_split_ands; go_simp⟩) (by assumption) ?_; simp only [Act.put, List.setIfInBounds_toArray, List.set_cons_zero, List.set_cons_succ])
 (refine wpAnyH_take (i := 4) (v := .int .i64 0) rfl (by kernel_rfl) (by kernel_rfl) (by kernel_rfl) (fun _ _ _ h => h) (Or.inl ⟨by kernel_rfl, fun w hSw => by (try dsimp only at hSw); go_split_ands; go_simp⟩) (by assumption) ?_; simp only [Act.put, List.setIfInBounds_toArray, List.set_cons_zero, List.set_cons_succ])
 (refine wpAnyH_take (i := 5) (v := .int .i64 48) rfl (by kernel_rfl) (by kernel_rfl) (by kernel_rfl) (fun _ _ _ h => h) (Or.inl ⟨by kernel_rfl, fun w hSw => by (try dsimp only at hSw); go_split_ands; go_simp⟩) (by assumption) ?_; simp only [Act.put, List.setIfInBounds_toArray, List.set_cons_zero, List.set_cons_succ])
 (refine wpAnyH_take (i := 6) (v := .int .u8 48) rfl (by kernel_rfl) (by kernel_rfl) (by kernel_rfl) (fun _ _ _ h => h) (Or.inl ⟨by kernel_rfl, fun w hSw => by (try dsimp only at hSw); go_split_ands; go_simp⟩) (by assumption) ?_; simp only [Act.put, List.setIfInBounds_toArray, List.set_cons_zero, List.set_cons_succ])
 obtain ⟨wd, hwd⟩ : ∃ wd, wd = w.drew := ⟨_, rfl⟩
 rw [← hwd] at hbD ⊢
 clear hwd
 refine wpAnyH_ready (rs := [2, 7]) (by kernel_rfl) (by simp) (AllReadyH.cons rfl (fun K hK => ?_) (AllReadyH.cons rfl (fun K hK => ?_) AllReadyH.nil))
 ·go_simp
  go_at_call 46
  refine (Hc.out _).mono ?_
  rintro e' w3 ⟨rfl, hb3⟩
  dsimp only
  (refine hK.out _ _ trivial (fun hHeld => ?_); clear hK K; (try simp only [Act.put, List.setIfInBounds_toArray, List.set_cons_zero, List.set_cons_succ]))
  have hcv3 := hcvA w3
  (refine wpAnyH_ready (rs := [7]) (by kernel_rfl) (by simp) (AllReadyH.cons rfl (fun K hK => ?_) AllReadyH.nil); go_simp)
  (refine hK.out _ _ trivial (fun hHeld => ?_); clear hK K; (try simp only [Act.put, List.setIfInBounds_toArray, List.set_cons_zero, List.set_cons_succ]))
  (refine wpAnyH_ready (rs := [8]) (by kernel_rfl) (by simp) (AllReadyH.cons rfl (fun K hK => ?_) AllReadyH.nil); go_simp)
  (refine hK.out _ _ trivial (fun hHeld => ?_); clear hK K; (try simp only [Act.put, List.setIfInBounds_toArray, List.set_cons_zero, List.set_cons_succ]))
  (refine wpAnyH_take (i := 9) (v := .string (bs [49, 48])) rfl (by kernel_rfl) (by kernel_rfl) (by kernel_rfl) (fun _ _ _ h => h) (Or.inl ⟨by kernel_rfl, fun w hSw => by (try dsimp only at hSw); go_split_ands; go_simp⟩) (by assumption) ?_; simp only [Act.put, List.setIfInBounds_toArray, List.set_cons_zero, List.set_cons_succ])
  (refine wpAnyH_ready (rs := [10]) (by kernel_rfl) (by simp) (AllReadyH.cons rfl (fun K hK => ?_) AllReadyH.nil); go_simp)
  (refine hK.out _ _ trivial (fun hHeld => ?_); clear hK K; (try simp only [Act.put, List.setIfInBounds_toArray, List.set_cons_zero, List.set_cons_succ]))
  refine wpAnyH_done (by kernel_rfl) (NoPanic.normal ?_) _
  go_wp2_with fail
  go_ret
  exact ⟨rfl, (hbD.trans (hb3.mono hbD.size)).alloc (Nat.le_trans hbD.size hb3.size) _⟩
 ·have hcv0 := hcvA wd
  obtain ⟨wb, hwb⟩ : ∃ wb, wb = wd.alloc (.cells #[.int .u8 48] 5) := ⟨_, rfl⟩
  have hbb : Below wd.heap.size wd wb := by rw [hwb]; exact (Below.refl _ _).alloc (Nat.le_refl _) _
  have hcb : wb.cell? ⟨wd.heap.size, 0, none⟩ = some (.int .u8 48) := by rw [hwb]; exact cell_of_block (heap_alloc_self _ _) 0
  have hsb := lt_of_cell hcb
  have Hwb := Lib.hid hwb; clear hwb
  go_simp
  rw [← Hwb.out]
  (refine hK.out _ _ trivial (fun hHeld => ?_); clear hK K; (try simp only [Act.put, List.setIfInBounds_toArray, List.set_cons_zero, List.set_cons_succ]))
  refine wpAnyH_ready (rs := [2, 8]) (by kernel_rfl) (by simp) (AllReadyH.cons rfl (fun K hK => ?_) (AllReadyH.cons rfl (fun K hK => ?_) AllReadyH.nil))
  ·go_simp
   go_at_call 46
   refine (Hc.out _).mono ?_
   rintro e' w3 ⟨rfl, hb3⟩
   have hcv3 := hcv _ _ (cell_keep hcb (hb3.block _ hsb))
   dsimp only
   (refine hK.out _ _ trivial (fun hHeld => ?_); clear hK K; (try simp only [Act.put, List.setIfInBounds_toArray, List.set_cons_zero, List.set_cons_succ]))
   (refine wpAnyH_ready (rs := [8]) (by kernel_rfl) (by simp) (AllReadyH.cons rfl (fun K hK => ?_) AllReadyH.nil); go_simp)
   (refine hK.out _ _ trivial (fun hHeld => ?_); clear hK K; (try simp only [Act.put, List.setIfInBounds_toArray, List.set_cons_zero, List.set_cons_succ]))
   (refine wpAnyH_take (i := 9) (v := .string (bs [49, 48])) rfl (by kernel_rfl) (by kernel_rfl) (by kernel_rfl) (fun _ _ _ h => h) (Or.inl ⟨by kernel_rfl, fun w hSw => by (try dsimp only at hSw); go_split_ands; go_simp⟩) (by assumption) ?_; simp only [Act.put, List.setIfInBounds_toArray, List.set_cons_zero, List.set_cons_succ])
   (refine wpAnyH_ready (rs := [10]) (by kernel_rfl) (by simp) (AllReadyH.cons rfl (fun K hK => ?_) AllReadyH.nil); go_simp)
   (refine hK.out _ _ trivial (fun hHeld => ?_); clear hK K; (try simp only [Act.put, List.setIfInBounds_toArray, List.set_cons_zero, List.set_cons_succ]))
   refine wpAnyH_done (by kernel_rfl) (NoPanic.normal ?_) _
   go_wp2_with fail
   go_ret
   exact ⟨rfl, (hbD.trans (hbb.mono hbD.size)).trans (hb3.mono (Nat.le_trans hbD.size hbb.size))⟩
  ·have hcv3 := hcv _ _ hcb
   go_simp
   (refine hK.out _ _ trivial (fun hHeld => ?_); clear hK K; (try simp only [Act.put, List.setIfInBounds_toArray, List.set_cons_zero, List.set_cons_succ]))
   refine wpAnyH_ready (rs := [2]) (by kernel_rfl) (by simp) (AllReadyH.cons rfl (fun K hK => ?_) AllReadyH.nil)
   go_simp
   go_at_call 46
   refine (Hc.out _).mono ?_
   rintro e' w3 ⟨rfl, hb3⟩
   dsimp only
   (refine hK.out _ _ trivial (fun hHeld => ?_); clear hK K; (try simp only [Act.put, List.setIfInBounds_toArray, List.set_cons_zero, List.set_cons_succ]))
   (refine wpAnyH_take (i := 9) (v := .string (bs [49, 48])) rfl (by kernel_rfl) (by kernel_rfl) (by kernel_rfl) (fun _ _ _ h => h) (Or.inl ⟨by kernel_rfl, fun w hSw => by (try dsimp only at hSw); go_split_ands; go_simp⟩) (by assumption) ?_; simp only [Act.put, List.setIfInBounds_toArray, List.set_cons_zero, List.set_cons_succ])
   (refine wpAnyH_ready (rs := [10]) (by kernel_rfl) (by simp) (AllReadyH.cons rfl (fun K hK => ?_) AllReadyH.nil); go_simp)
   (refine hK.out _ _ trivial (fun hHeld => ?_); clear hK K; (try simp only [Act.put, List.setIfInBounds_toArray, List.set_cons_zero, List.set_cons_succ]))
   refine wpAnyH_done (by kernel_rfl) (NoPanic.normal ?_) _
   go_wp2_with fail
   go_ret
   exact ⟨rfl, (hbD.trans (hbb.mono hbD.size)).trans (hb3.mono (Nat.le_trans hbD.size hbb.size))⟩
set_option maxRecDepth 100000 in
set_option maxHeartbeats 1000000 in
theorem dec11 (w : World) :
  Calls Tryz.prog 46 #[.int .i64 11] w fun e w' => e = .returned (.string (bs (decW 11))) ∧ Below w.heap.size w w' := by
 have hcv : ∀ (b : Nat) (w' : World), w'.cell? ⟨b, 0, none⟩ = some (.int .u8 49) → (convert 22 9 (.slice (some ⟨b, 0, none⟩) 1 1)).run Tryz.prog w' = .ok (.string ⟨#[49]⟩) w' := fun b w' hc => by
  rw [conv1 b 49 (by omega) w' hc]; rfl
 have hfin : decW 11 = [49, 49] := by unfold decW Lib.decDigits; simp; unfold Lib.decDigits; simp
 rw [hfin]
 have hcall := fun w' : World => dec0 1 (by omega) w'
 simp only [show decW ((1 : Nat) : Int) = [49] from decW_lt (k := 1) (by omega)] at hcall
 have Hc := Lib.hid hcall; clear hcall hfin
 have hbD : Below w.heap.size w w.drew := (Below.refl _ _).drew
 have hcvA := fun w' : World => hcv w'.heap.size (w'.alloc (.cells #[.int .u8 49] 5)) (cell_of_block (heap_alloc_self w' _) 0)
 have hw1 : IntKind.i64.wrap 1 = 1 := IntWalk.i64_in _ (by omega)
 have hw2 : IntKind.i64.wrap 49 = 49 := IntWalk.i64_in _ (by omega)
 have hw3 : IntKind.u8.wrap 49 = 49 := by decide
 have hs49 : (bs [49]).size = 1 := rfl
 have hap : bs [49] ++ ({ data := #[49] } : ByteArray) = bs [49, 49] := bs_app [49] [49]
 go_enter Tryz.func46, Tryz.ntmps46
 go_wp2_with fail
 refine wp_region_noPanic ?_
 refine wp_region_held_drew (S := fun _ => True) (by kernel_rfl) trivial (fun hHeld => ?_)
 (refine wpAnyH_take (i := 0) (v := .int .i64 11) rfl (by kernel_rfl) (by kernel_rfl) (by kernel_rfl) (fun _ _ _ h => h) (Or.inl ⟨by kernel_rfl, fun w hSw => by (try dsimp only at hSw); go_split_ands; go_simp⟩) (by assumption) ?_; simp only [Act.put, List.setIfInBounds_toArray, List.set_cons_zero, List.set_cons_succ])
 (refine wpAnyH_take (i := 1) (v := .int .i64 1) rfl (by kernel_rfl) (by kernel_rfl) (by kernel_rfl) (fun _ _ _ h => h) (Or.inl ⟨by kernel_rfl, fun w hSw => by (try dsimp only at hSw); go_split_ands; go_simp⟩) (by assumption) ?_; simp only [Act.put, List.setIfInBounds_toArray, List.set_cons_zero, List.set_cons_succ])
 (refine wpAnyH_take (i := 3) (v := .int .i64 11) rfl (by kernel_rfl) (by kernel_rfl) (by kernel_rfl) (fun _ _ _ h => h) (Or.inl ⟨by kernel_rfl, fun w hSw => by (try dsimp only at hSw); go_split_ands; go_simp⟩) (by assumption) ?_; simp only [Act.put, List.setIfInBounds_toArray, List.set_cons_zero, List.set_cons_succ])
 (refine wpAnyH_take (i := 4) (v := .int .i64 1) rfl (by kernel_rfl) (by kernel_rfl) (by kernel_rfl) (fun _ _ _ h => h) (Or.inl ⟨by kernel_rfl, fun w hSw => by (try dsimp only at hSw); go_split_ands; go_simp⟩) (by assumption) ?_; simp only [Act.put, List.setIfInBounds_toArray, List.set_cons_zero, List.set_cons_succ])
 (refine wpAnyH_take (i := 5) (v := .int .i64 49) rfl (by kernel_rfl) (by kernel_rfl) (by kernel_rfl) (fun _ _ _ h => h) (Or.inl ⟨by kernel_rfl, fun w hSw => by (try dsimp only at hSw); go_split_ands; go_simp⟩) (by assumption) ?_; simp only [Act.put, List.setIfInBounds_toArray, List.set_cons_zero, List.set_cons_succ])
 (refine wpAnyH_take (i := 6) (v := .int .u8 49) rfl (by kernel_rfl) (by kernel_rfl) (by kernel_rfl) (fun _ _ _ h => h) (Or.inl ⟨by kernel_rfl, fun w hSw => by (try dsimp only at hSw); go_split_ands; go_simp⟩) (by assumption) ?_; simp only [Act.put, List.setIfInBounds_toArray, List.set_cons_zero, List.set_cons_succ])
 obtain ⟨wd, hwd⟩ : ∃ wd, wd = w.drew := ⟨_, rfl⟩
 rw [← hwd] at hbD ⊢
 clear hwd
 refine wpAnyH_ready (rs := [2, 7]) (by kernel_rfl) (by simp) (AllReadyH.cons rfl (fun K hK => ?_) (AllReadyH.cons rfl (fun K hK => ?_) AllReadyH.nil))
 ·go_simp
  go_at_call 46
  refine (Hc.out _).mono ?_
  rintro e' w3 ⟨rfl, hb3⟩
  dsimp only
  (refine hK.out _ _ trivial (fun hHeld => ?_); clear hK K; (try simp only [Act.put, List.setIfInBounds_toArray, List.set_cons_zero, List.set_cons_succ]))
  have hcv3 := hcvA w3
  (refine wpAnyH_ready (rs := [7]) (by kernel_rfl) (by simp) (AllReadyH.cons rfl (fun K hK => ?_) AllReadyH.nil); go_simp)
  (refine hK.out _ _ trivial (fun hHeld => ?_); clear hK K; (try simp only [Act.put, List.setIfInBounds_toArray, List.set_cons_zero, List.set_cons_succ]))
  (refine wpAnyH_ready (rs := [8]) (by kernel_rfl) (by simp) (AllReadyH.cons rfl (fun K hK => ?_) AllReadyH.nil); go_simp)
  (refine hK.out _ _ trivial (fun hHeld => ?_); clear hK K; (try simp only [Act.put, List.setIfInBounds_toArray, List.set_cons_zero, List.set_cons_succ]))
  (refine wpAnyH_take (i := 9) (v := .string (bs [49, 49])) rfl (by kernel_rfl) (by kernel_rfl) (by kernel_rfl) (fun _ _ _ h => h) (Or.inl ⟨by kernel_rfl, fun w hSw => by (try dsimp only at hSw); go_split_ands; go_simp⟩) (by assumption) ?_; simp only [Act.put, List.setIfInBounds_toArray, List.set_cons_zero, List.set_cons_succ])
  (refine wpAnyH_ready (rs := [10]) (by kernel_rfl) (by simp) (AllReadyH.cons rfl (fun K hK => ?_) AllReadyH.nil); go_simp)
  (refine hK.out _ _ trivial (fun hHeld => ?_); clear hK K; (try simp only [Act.put, List.setIfInBounds_toArray, List.set_cons_zero, List.set_cons_succ]))
  refine wpAnyH_done (by kernel_rfl) (NoPanic.normal ?_) _
  go_wp2_with fail
  go_ret
  exact ⟨rfl, (hbD.trans (hb3.mono hbD.size)).alloc (Nat.le_trans hbD.size hb3.size) _⟩
 ·have hcv0 := hcvA wd
  obtain ⟨wb, hwb⟩ : ∃ wb, wb = wd.alloc (.cells #[.int .u8 49] 5) := ⟨_, rfl⟩
  have hbb : Below wd.heap.size wd wb := by rw [hwb]; exact (Below.refl _ _).alloc (Nat.le_refl _) _
  have hcb : wb.cell? ⟨wd.heap.size, 0, none⟩ = some (.int .u8 49) := by rw [hwb]; exact cell_of_block (heap_alloc_self _ _) 0
  have hsb := lt_of_cell hcb
  have Hwb := Lib.hid hwb; clear hwb
  go_simp
  rw [← Hwb.out]
  (refine hK.out _ _ trivial (fun hHeld => ?_); clear hK K; (try simp only [Act.put, List.setIfInBounds_toArray, List.set_cons_zero, List.set_cons_succ]))
  refine wpAnyH_ready (rs := [2, 8]) (by kernel_rfl) (by simp) (AllReadyH.cons rfl (fun K hK => ?_) (AllReadyH.cons rfl (fun K hK => ?_) AllReadyH.nil))
  ·go_simp
   go_at_call 46
   refine (Hc.out _).mono ?_
   rintro e' w3 ⟨rfl, hb3⟩
   have hcv3 := hcv _ _ (cell_keep hcb (hb3.block _ hsb))
   dsimp only
   (refine hK.out _ _ trivial (fun hHeld => ?_); clear hK K; (try simp only [Act.put, List.setIfInBounds_toArray, List.set_cons_zero, List.set_cons_succ]))
   (refine wpAnyH_ready (rs := [8]) (by kernel_rfl) (by simp) (AllReadyH.cons rfl (fun K hK => ?_) AllReadyH.nil); go_simp)
   (refine hK.out _ _ trivial (fun hHeld => ?_); clear hK K; (try simp only [Act.put, List.setIfInBounds_toArray, List.set_cons_zero, List.set_cons_succ]))
   (refine wpAnyH_take (i := 9) (v := .string (bs [49, 49])) rfl (by kernel_rfl) (by kernel_rfl) (by kernel_rfl) (fun _ _ _ h => h) (Or.inl ⟨by kernel_rfl, fun w hSw => by (try dsimp only at hSw); go_split_ands; go_simp⟩) (by assumption) ?_; simp only [Act.put, List.setIfInBounds_toArray, List.set_cons_zero, List.set_cons_succ])
   (refine wpAnyH_ready (rs := [10]) (by kernel_rfl) (by simp) (AllReadyH.cons rfl (fun K hK => ?_) AllReadyH.nil); go_simp)
   (refine hK.out _ _ trivial (fun hHeld => ?_); clear hK K; (try simp only [Act.put, List.setIfInBounds_toArray, List.set_cons_zero, List.set_cons_succ]))
   refine wpAnyH_done (by kernel_rfl) (NoPanic.normal ?_) _
   go_wp2_with fail
   go_ret
   exact ⟨rfl, (hbD.trans (hbb.mono hbD.size)).trans (hb3.mono (Nat.le_trans hbD.size hbb.size))⟩
  ·have hcv3 := hcv _ _ hcb
   go_simp
   (refine hK.out _ _ trivial (fun hHeld => ?_); clear hK K; (try simp only [Act.put, List.setIfInBounds_toArray, List.set_cons_zero, List.set_cons_succ]))
   refine wpAnyH_ready (rs := [2]) (by kernel_rfl) (by simp) (AllReadyH.cons rfl (fun K hK => ?_) AllReadyH.nil)
   go_simp
   go_at_call 46
   refine (Hc.out _).mono ?_
   rintro e' w3 ⟨rfl, hb3⟩
   dsimp only
   (refine hK.out _ _ trivial (fun hHeld => ?_); clear hK K; (try simp only [Act.put, List.setIfInBounds_toArray, List.set_cons_zero, List.set_cons_succ]))
   (refine wpAnyH_take (i := 9) (v := .string (bs [49, 49])) rfl (by kernel_rfl) (by kernel_rfl) (by kernel_rfl) (fun _ _ _ h => h) (Or.inl ⟨by kernel_rfl, fun w hSw => by (try dsimp only at hSw); go_split_ands; go_simp⟩) (by assumption) ?_; simp only [Act.put, List.setIfInBounds_toArray, List.set_cons_zero, List.set_cons_succ])
   (refine wpAnyH_ready (rs := [10]) (by kernel_rfl) (by simp) (AllReadyH.cons rfl (fun K hK => ?_) AllReadyH.nil); go_simp)
   (refine hK.out _ _ trivial (fun hHeld => ?_); clear hK K; (try simp only [Act.put, List.setIfInBounds_toArray, List.set_cons_zero, List.set_cons_succ]))
   refine wpAnyH_done (by kernel_rfl) (NoPanic.normal ?_) _
   go_wp2_with fail
   go_ret
   exact ⟨rfl, (hbD.trans (hbb.mono hbD.size)).trans (hb3.mono (Nat.le_trans hbD.size hbb.size))⟩
theorem dec_any (n : Int) (h0 : 0 ≤ n) (h1 : n ≤ 11) (w : World) :
  Calls Tryz.prog 46 #[.int .i64 n] w fun e w' => e = .returned (.string (bs (decW n))) ∧ Below w.heap.size w w' := by
 by_cases h : n < 10
 ·obtain ⟨k, rfl⟩ : ∃ k : Nat, n = (k : Int) := ⟨n.toNat, by omega⟩
  exact dec0 k (by omega) w
 ·rcases (show n = 10 ∨ n = 11 by omega) with rfl | rfl
  ·exact dec10 w
  ·exact dec11 w
set_option maxRecDepth 100000 in
set_option maxHeartbeats 2000000 in
theorem l19Code_any {S : Nat → Prop} (v : Value) (l : List (Int × Int)) (W : World) (h : VS S W v l) :
  Calls Tryz.prog 25 #[v] W fun e' w' => e' = .returned (.int .i64 (codeS l)) ∧ Below W.heap.size W w' := by
 have hV := h
 obtain ⟨a, c, rfl, hm⟩ := h.form
 go_enter Tryz.func25, Tryz.ntmps25
 go_wp2_with fail
 go_loopw [3] (fun i wr => ∃ k : Nat, k ≤ l.length ∧ i = .int .i64 k ∧ fitTo l k = true ∧ Below W.heap.size W wr) (fun i _ => l.length - (intOf i).toNat)
 case atStart => exact ⟨0, Nat.zero_le _, rfl, rfl, Below.refl _ _⟩
 case round =>
  obtain ⟨k, hk, rfl, hft, hB⟩ := hrel
  have hzW := hB.size
  by_cases hkk : k < l.length
  ·obtain ⟨b1, off1, rfl, _, hc1, hc2⟩ := (hV.below hB).cell hkk
   have hstep : fitTo l (k + 1) = fitS (gets l k) := by unfold fitTo; rw [hft]; rfl
   have hkn : ¬ l.length ≤ k := by omega
   have hkd : decide (k < l.length) = true := decide_eq_true hkk
   obtain ⟨x, hx⟩ : ∃ x, gets l k = x := ⟨_, rfl⟩
   rw [hx] at hc1 hc2 hstep
   have HS := Lib.hid (And.intro hstep hx); clear hstep hx hft
   cases ho : openS x
   ·have HO := Lib.hid ho; clear ho
    cases h1 : inB x.1 0 9
    ·have H1 := Lib.hid h1; clear h1
     have hbad : codeS l = 2 := by
      have h2 : fitTo l (k + 1) = false := by rw [HS.out.1]; unfold fitS; rw [HO.out, H1.out]; rfl
      unfold codeS
      rw [if_pos (fitTo_false h2 _ (by omega))]
     have Hbad := Lib.hid hbad; clear hbad
     go_wp2_with (first | (go_at_call 37; refine (l19Open_b x _ _ HO.out).mono ?_; rintro e' w' ⟨rfl, hb⟩; have hc1' := cell_keep hc1 (hb.block _ (lt_of_cell hc1)); have hc2' := cell_keep hc2 (hb.block _ (lt_of_cell hc1))) | (go_at_call 45; refine (l01In_b x.1 0 9 _ _ H1.out).mono ?_; rintro e' w'' ⟨rfl, rfl⟩))
     go_ret
     exact ⟨by rw [Hbad.out]; rfl, hB.trans (hb.mono hzW)⟩
    ·have H1 := Lib.hid h1; clear h1
     cases h2 : inB x.2 0 11
     ·have H2 := Lib.hid h2; clear h2
      have hbad : codeS l = 2 := by
       have h2 : fitTo l (k + 1) = false := by rw [HS.out.1]; unfold fitS; rw [HO.out, H1.out, H2.out]; rfl
       unfold codeS
       rw [if_pos (fitTo_false h2 _ (by omega))]
      have Hbad := Lib.hid hbad; clear hbad
      go_wp2_with (first | (go_at_call 37; refine (l19Open_b x _ _ HO.out).mono ?_; rintro e' w' ⟨rfl, hb⟩; have hc1' := cell_keep hc1 (hb.block _ (lt_of_cell hc1)); have hc2' := cell_keep hc2 (hb.block _ (lt_of_cell hc1))) | (go_at_call 45; with_reducible refine (l01In_b x.1 0 9 _ _ H1.out).mono ?_; rintro e' w'' ⟨rfl, rfl⟩) | (go_at_call 45; with_reducible refine (l01In_b x.2 0 11 _ _ H2.out).mono ?_; rintro e' w'' ⟨rfl, rfl⟩))
      go_ret
      exact ⟨by rw [Hbad.out]; rfl, hB.trans (hb.mono hzW)⟩
     ·have H2 := Lib.hid h2; clear h2
      go_wp2_with (first | (go_at_call 37; refine (l19Open_b x _ _ HO.out).mono ?_; rintro e' w' ⟨rfl, hb⟩; have hc1' := cell_keep hc1 (hb.block _ (lt_of_cell hc1)); have hc2' := cell_keep hc2 (hb.block _ (lt_of_cell hc1))) | (go_at_call 45; with_reducible refine (l01In_b x.1 0 9 _ _ H1.out).mono ?_; rintro e' w'' ⟨rfl, rfl⟩) | (go_at_call 45; with_reducible refine (l01In_b x.2 0 11 _ _ H2.out).mono ?_; rintro e' w'' ⟨rfl, rfl⟩))
      go_roundw
      case rel => exact ⟨k + 1, by omega, by go_num, by rw [HS.out.1]; unfold fitS; rw [HO.out, H1.out, H2.out]; rfl, hB.trans (hb.mono hzW)⟩
      case measure => simp [intOf]; omega
   ·have HO := Lib.hid ho; clear ho
    go_wp2_with (go_at_call 37; refine (l19Open_b x _ _ HO.out).mono ?_; rintro e' w' ⟨rfl, hb⟩)
    go_roundw
    case rel => exact ⟨k + 1, by omega, by go_num, by rw [HS.out.1]; unfold fitS; rw [HO.out]; rfl, hB.trans (hb.mono hzW)⟩
    case measure => simp [intOf]; omega
  ·obtain rfl : k = l.length := by omega
   have hkd : decide (l.length < l.length) = false := decide_eq_false (Nat.lt_irrefl _)
   by_cases hl : 1200 < l.length
   ·have hfin : codeS l = 3 := by unfold codeS; rw [if_neg (by rw [hft]; decide), if_pos hl]
    have Hfin := Lib.hid (And.intro hfin hft); clear hfin hft
    go_wp2_with fail
    go_ret
    exact ⟨by rw [Hfin.out.1]; rfl, hB⟩
   ·have hfin : codeS l = 0 := by unfold codeS; rw [if_neg (by rw [hft]; decide), if_neg hl]
    have Hfin := Lib.hid (And.intro hfin hft); clear hfin hft
    go_wp2_with fail
    go_ret
    exact ⟨by rw [Hfin.out.1]; rfl, hB⟩
set_option maxRecDepth 100000 in
set_option maxHeartbeats 12000000 in
theorem l19Text_any {S : Nat → Prop} (v : Value) (l : List (Int × Int)) (W : World) (h : VS S W v l) (hf : fitTo l l.length = true) (hl : l.length ≤ 1200) :
  Calls Tryz.prog 26 #[v] W fun e' w' => e' = .returned (.string (bs (txtTo l l.length))) ∧ Below W.heap.size W w' := by
 have hV := h
 obtain ⟨a, c, rfl, hm⟩ := h.form
 have HF := Lib.hid hf; clear hf
 go_enter Tryz.func26, Tryz.ntmps26
 go_wp2_with fail
 go_loopw [3, 4] (fun s i wr => ∃ k : Nat, k ≤ l.length ∧ i = .int .i64 k ∧ s = .string (bs (txtTo l k)) ∧ Below W.heap.size W wr) (fun _ i _ => l.length - (intOf i).toNat)
 case atStart => exact ⟨0, Nat.zero_le _, rfl, rfl, Below.refl _ _⟩
 case round =>
  obtain ⟨k, hk, rfl, rfl, hB⟩ := hrel
  have hzW := hB.size
  have htl := txt_len HF.out k hk
  by_cases hkk : k < l.length
  ·obtain ⟨b1, off1, rfl, _, hc1, hc2⟩ := (hV.below hB).cell hkk
   have hkn : ¬ l.length ≤ k := by omega
   have hkd : decide (k < l.length) = true := decide_eq_true hkk
   have hstep : txtTo l (k + 1) = txtTo l k ++ (if 0 < k then [32] else []) ++ wordS (gets l k) := rfl
   have hfit := fitTo_at HF.out hkk
   obtain ⟨x, hx⟩ : ∃ x, gets l k = x := ⟨_, rfl⟩
   rw [hx] at hc1 hc2 hstep hfit
   by_cases hk0 : 0 < k
   ·rw [if_pos hk0] at hstep
    have HS := Lib.hid (And.intro hstep (And.intro hfit hx)); clear hstep hfit hx
    have hz0 : (bs (txtTo l k)).size ≤ 100000 := by rw [bs_size]; omega
    have hk0d : decide (0 < k) = true := decide_eq_true hk0
    obtain ⟨sp, hsp⟩ : ∃ sp : List UInt8, sp = [32] := ⟨_, rfl⟩
    have hspl : sp.length ≤ 1 := by rw [hsp]; simp
    obtain ⟨s0, hs0⟩ : ∃ s0, bs (txtTo l k ++ sp) = s0 := ⟨_, rfl⟩
    have ha0 : bs (txtTo l k) ++ ({ data := #[32] } : ByteArray) = s0 := by rw [← hs0, hsp]; exact bs_app _ [32]
    have hz1 : s0.size ≤ 100000 := by rw [← hs0, bs_size, List.length_append]; omega
    cases ho : openS x
    ·have hfx := HS.out.2.1
     unfold fitS at hfx
     rw [ho, Bool.false_or, Bool.and_eq_true, inB_iff, inB_iff] at hfx
     have hw : wordS x = decW x.1 ++ [47] ++ decW x.2 := by unfold wordS; rw [ho]; rfl
     have hd1 := dec_small hfx.1.1 (Int.le_trans hfx.1.2 (by omega))
     have hd2 := dec_small hfx.2.1 hfx.2.2
     have hC1 := fun w => dec_any x.1 hfx.1.1 (Int.le_trans hfx.1.2 (by omega)) w
     have hC2 := fun w => dec_any x.2 hfx.2.1 hfx.2.2 w
     obtain ⟨d1, hd1e⟩ : ∃ d, bs (decW x.1) = d := ⟨_, rfl⟩
     obtain ⟨d2, hd2e⟩ : ∃ d, bs (decW x.2) = d := ⟨_, rfl⟩
     obtain ⟨s1, hs1⟩ : ∃ s, bs (txtTo l k ++ sp ++ decW x.1) = s := ⟨_, rfl⟩
     obtain ⟨s2, hs2⟩ : ∃ s, bs (txtTo l k ++ sp ++ decW x.1 ++ [47]) = s := ⟨_, rfl⟩
     obtain ⟨s3, hs3⟩ : ∃ s, bs (txtTo l k ++ sp ++ decW x.1 ++ [47] ++ decW x.2) = s := ⟨_, rfl⟩
     have hnx : s3 = bs (txtTo l (k + 1)) := by
      rw [← hs3, HS.out.1, hw, hsp]; simp
     have ha1 : s0 ++ d1 = s1 := by rw [← hs0, ← hd1e, ← hs1]; exact bs_app _ _
     have ha2 : s1 ++ ({ data := #[47] } : ByteArray) = s2 := by rw [← hs1, ← hs2]; exact bs_app _ [47]
     have ha3 : s2 ++ d2 = s3 := by rw [← hs2, ← hd2e, ← hs3]; exact bs_app _ _
     have hq1 : d1.size ≤ 2 := by rw [← hd1e, bs_size]; omega
     have hq2 : d2.size ≤ 2 := by rw [← hd2e, bs_size]; omega
     have hz2 : s1.size ≤ 100002 := by rw [← hs1, bs_size, List.length_append, List.length_append]; omega
     have hz3 : s2.size ≤ 100003 := by rw [← hs2, bs_size, List.length_append, List.length_append, List.length_append]; simp; omega
     have hg1 : s0.size + d1.size ≤ 9223372036854775807 := by omega
     have hg2 : ¬ 9223372036854775807 < s1.size + 1 := by omega
     have hg3 : ¬ 9223372036854775807 < s2.size + d2.size := by omega
     have hg1' : ¬ 9223372036854775807 < s0.size + d1.size := by omega
     simp only [hd1e] at hC1
     simp only [hd2e] at hC2
     have HO := Lib.hid ho; clear ho
     have HX := Lib.hid (And.intro hnx (And.intro hC1 hC2)); clear hfx hnx hd1 hd2 hw hC1 hC2 hd1e hd2e hs0 hs1 hs2 hs3 hsp hspl
     go_wp2_with (go_at_call 37; refine (l19Open_b x _ _ HO.out).mono ?_; rintro e' w5 ⟨rfl, hb5⟩; have hc1' := cell_keep hc1 (hb5.block _ (lt_of_cell hc1)); have hc2' := cell_keep hc2 (hb5.block _ (lt_of_cell hc1)); have hBW := hB.trans (hb5.mono hzW))
     clear hc1 hc2
     refine wp_region_noPanic ?_
     refine wp_region_held_drew (S := fun w' => w'.cell? ⟨b1, off1 + k * 2, none⟩ = some (.int .i64 x.1) ∧ w'.cell? ⟨b1, off1 + k * 2 + 1, none⟩ = some (.int .i64 x.2)) (by kernel_rfl) ⟨cell_keep hc1' rfl, cell_keep hc2' rfl⟩ (fun hHeld => ?_)
     (refine wpAnyH_take (i := 0) (v := .string s0) rfl (by kernel_rfl) (by kernel_rfl) (by kernel_rfl) (fun _ _ _ h => h) (Or.inl ⟨by kernel_rfl, fun w hSw => by (try dsimp only at hSw); go_split_ands; go_simp⟩) (by assumption) ?_; simp only [Act.put, List.setIfInBounds_toArray, List.set_cons_zero, List.set_cons_succ])
     (refine wpAnyH_take (i := 1) (v := .slice (some ⟨b1, off1, none⟩) l.length c) rfl (by kernel_rfl) (by kernel_rfl) (by kernel_rfl) (fun _ _ _ h => h) (Or.inl ⟨by kernel_rfl, fun w hSw => by (try dsimp only at hSw); go_split_ands; go_simp⟩) (by assumption) ?_; simp only [Act.put, List.setIfInBounds_toArray, List.set_cons_zero, List.set_cons_succ])
     (refine wpAnyH_take (i := 2) (v := .int .i64 (k : Int)) rfl (by kernel_rfl) (by kernel_rfl) (by kernel_rfl) (fun _ _ _ h => h) (Or.inl ⟨by kernel_rfl, fun w hSw => by (try dsimp only at hSw); go_split_ands; go_simp⟩) (by assumption) ?_; simp only [Act.put, List.setIfInBounds_toArray, List.set_cons_zero, List.set_cons_succ])
     (refine wpAnyH_take (i := 3) (v := .pointer (some ⟨b1, off1 + k * 2, none⟩)) rfl (by kernel_rfl) (by kernel_rfl) (by kernel_rfl) (fun _ _ _ h => h) (Or.inl ⟨by kernel_rfl, fun w hSw => by (try dsimp only at hSw); go_split_ands; go_simp⟩) (by assumption) ?_; simp only [Act.put, List.setIfInBounds_toArray, List.set_cons_zero, List.set_cons_succ])
     (refine wpAnyH_take (i := 4) (v := .pointer (some ⟨b1, off1 + k * 2, none⟩)) rfl (by kernel_rfl) (by kernel_rfl) (by kernel_rfl) (fun _ _ _ h => h) (Or.inl ⟨by kernel_rfl, fun w hSw => by (try dsimp only at hSw); go_split_ands; go_simp⟩) (by assumption) ?_; simp only [Act.put, List.setIfInBounds_toArray, List.set_cons_zero, List.set_cons_succ])
     (refine wpAnyH_take (i := 5) (v := .int .i64 x.1) rfl (by kernel_rfl) (by kernel_rfl) (by kernel_rfl) (fun _ _ _ h => h) (Or.inl ⟨by kernel_rfl, fun w hSw => by (try dsimp only at hSw); go_split_ands; go_simp⟩) (by assumption) ?_; simp only [Act.put, List.setIfInBounds_toArray, List.set_cons_zero, List.set_cons_succ])
     (refine wpAnyH_take (i := 9) (v := .slice (some ⟨b1, off1, none⟩) l.length c) rfl (by kernel_rfl) (by kernel_rfl) (by kernel_rfl) (fun _ _ _ h => h) (Or.inl ⟨by kernel_rfl, fun w hSw => by (try dsimp only at hSw); go_split_ands; go_simp⟩) (by assumption) ?_; simp only [Act.put, List.setIfInBounds_toArray, List.set_cons_zero, List.set_cons_succ])
     (refine wpAnyH_take (i := 10) (v := .int .i64 (k : Int)) rfl (by kernel_rfl) (by kernel_rfl) (by kernel_rfl) (fun _ _ _ h => h) (Or.inl ⟨by kernel_rfl, fun w hSw => by (try dsimp only at hSw); go_split_ands; go_simp⟩) (by assumption) ?_; simp only [Act.put, List.setIfInBounds_toArray, List.set_cons_zero, List.set_cons_succ])
     (refine wpAnyH_take (i := 11) (v := .pointer (some ⟨b1, off1 + k * 2, none⟩)) rfl (by kernel_rfl) (by kernel_rfl) (by kernel_rfl) (fun _ _ _ h => h) (Or.inl ⟨by kernel_rfl, fun w hSw => by (try dsimp only at hSw); go_split_ands; go_simp⟩) (by assumption) ?_; simp only [Act.put, List.setIfInBounds_toArray, List.set_cons_zero, List.set_cons_succ])
     (refine wpAnyH_take (i := 12) (v := .pointer (some ⟨b1, off1 + k * 2 + 1, none⟩)) rfl (by kernel_rfl) (by kernel_rfl) (by kernel_rfl) (fun _ _ _ h => h) (Or.inl ⟨by kernel_rfl, fun w hSw => by (try dsimp only at hSw); go_split_ands; go_simp⟩) (by assumption) ?_; simp only [Act.put, List.setIfInBounds_toArray, List.set_cons_zero, List.set_cons_succ])
     (refine wpAnyH_take (i := 13) (v := .int .i64 x.2) rfl (by kernel_rfl) (by kernel_rfl) (by kernel_rfl) (fun _ _ _ h => h) (Or.inl ⟨by kernel_rfl, fun w hSw => by (try dsimp only at hSw); go_split_ands; go_simp⟩) (by assumption) ?_; simp only [Act.put, List.setIfInBounds_toArray, List.set_cons_zero, List.set_cons_succ])
     obtain ⟨wd, hwd⟩ : ∃ wd, wd = w5.drew := ⟨_, rfl⟩
     have hbd : Below w5.heap.size w5 wd := by rw [hwd]; exact (Below.refl _ _).drew
     rw [← hwd] at hHeld ⊢
     clear hwd hc1' hc2'
     refine wpAnyH_ready (rs := [6]) (by kernel_rfl) (by simp) (AllReadyH.cons rfl (fun K hK => ?_) AllReadyH.nil)
     go_simp
     go_at_call 46
     refine (HX.out.2.1 _).mono ?_
     rintro e' w6 ⟨rfl, hb⟩
     have hbw6 := hb
     have hSw6 : w6.cell? ⟨b1, off1 + k * 2, none⟩ = some (.int .i64 x.1) ∧ w6.cell? ⟨b1, off1 + k * 2 + 1, none⟩ = some (.int .i64 x.2) := ⟨cell_keep hHeld.1 (hb.block _ (lt_of_cell hHeld.1)), cell_keep hHeld.2 (hb.block _ (lt_of_cell hHeld.2))⟩
     clear hb
     dsimp only
     (refine hK.out _ _ hSw6 (fun hHeld => ?_); clear hK K; (try simp only [Act.put, List.setIfInBounds_toArray, List.set_cons_zero, List.set_cons_succ]))
     (refine wpAnyH_take (i := 7) (v := .string s1) rfl (by kernel_rfl) (by kernel_rfl) (by kernel_rfl) (fun _ _ _ h => h) (Or.inl ⟨by kernel_rfl, fun w hSw => by (try dsimp only at hSw); go_split_ands; go_simp⟩) (by assumption) ?_; simp only [Act.put, List.setIfInBounds_toArray, List.set_cons_zero, List.set_cons_succ])
     (refine wpAnyH_take (i := 8) (v := .string s2) rfl (by kernel_rfl) (by kernel_rfl) (by kernel_rfl) (fun _ _ _ h => h) (Or.inl ⟨by kernel_rfl, fun w hSw => by (try dsimp only at hSw); go_split_ands; go_simp⟩) (by assumption) ?_; simp only [Act.put, List.setIfInBounds_toArray, List.set_cons_zero, List.set_cons_succ])
     refine wpAnyH_ready (rs := [14]) (by kernel_rfl) (by simp) (AllReadyH.cons rfl (fun K hK => ?_) AllReadyH.nil)
     go_simp
     go_at_call 46
     refine (HX.out.2.2 _).mono ?_
     rintro e' w7 ⟨rfl, hb⟩
     have hbw7 := hb
     have hSw7 : w7.cell? ⟨b1, off1 + k * 2, none⟩ = some (.int .i64 x.1) ∧ w7.cell? ⟨b1, off1 + k * 2 + 1, none⟩ = some (.int .i64 x.2) := ⟨cell_keep hSw6.1 (hb.block _ (lt_of_cell hSw6.1)), cell_keep hSw6.2 (hb.block _ (lt_of_cell hSw6.2))⟩
     clear hb
     dsimp only
     (refine hK.out _ _ hSw7 (fun hHeld => ?_); clear hK K; (try simp only [Act.put, List.setIfInBounds_toArray, List.set_cons_zero, List.set_cons_succ]))
     (refine wpAnyH_take (i := 15) (v := .string s3) rfl (by kernel_rfl) (by kernel_rfl) (by kernel_rfl) (fun _ _ _ h => h) (Or.inl ⟨by kernel_rfl, fun w hSw => by (try dsimp only at hSw); go_split_ands; go_simp⟩) (by assumption) ?_; simp only [Act.put, List.setIfInBounds_toArray, List.set_cons_zero, List.set_cons_succ])
     (refine wpAnyH_ready (rs := [16]) (by kernel_rfl) (by simp) (AllReadyH.cons rfl (fun K hK => ?_) AllReadyH.nil); go_simp)
     (refine hK.out _ _ hSw7 (fun hHeld => ?_); clear hK K; (try simp only [Act.put, List.setIfInBounds_toArray, List.set_cons_zero, List.set_cons_succ]))
     refine wpAnyH_done (by kernel_rfl) (NoPanic.normal ?_) _
     go_wp2_with fail
     go_roundw
     case rel => exact ⟨k + 1, by omega, by go_num, by rw [HX.out.1], (hBW.trans ((hbd.trans ((hbw6.mono hbd.size).trans (hbw7.mono (Nat.le_trans hbd.size hbw6.size)))).mono hBW.size))⟩
     case measure => simp [intOf]; omega
    ·have hw : wordS x = [43] := by unfold wordS; rw [if_pos ho]
     obtain ⟨s1, hs1⟩ : ∃ s, bs (txtTo l k ++ sp ++ [43]) = s := ⟨_, rfl⟩
     have hnx : s1 = bs (txtTo l (k + 1)) := by rw [← hs1, HS.out.1, hw, hsp]
     have ha1 : s0 ++ ({ data := #[43] } : ByteArray) = s1 := by rw [← hs0, ← hs1]; exact bs_app _ [43]
     have hg1 : ¬ 9223372036854775807 < s0.size + 1 := by omega
     have HO := Lib.hid ho; clear ho
     have HX := Lib.hid hnx; clear hnx hw hs0 hs1 hsp hspl
     go_wp2_with (go_at_call 37; refine (l19Open_b x _ _ HO.out).mono ?_; rintro e' w5 ⟨rfl, hb5⟩; have hBW := hB.trans (hb5.mono hzW))
     go_roundw
     case rel => exact ⟨k + 1, by omega, by go_num, by rw [HX.out], hBW⟩
     case measure => simp [intOf]; omega
   ·obtain rfl : k = 0 := by omega
    rw [if_neg (by omega)] at hstep
    have HS := Lib.hid (And.intro hstep (And.intro hfit hx)); clear hstep hfit hx
    have hz0 : (bs (txtTo l 0)).size ≤ 100000 := by rw [bs_size]; omega
    obtain ⟨k, hk0e⟩ : ∃ k, k = 0 := ⟨0, rfl⟩
    rw [← hk0e] at HS hkk hk htl hkn hkd hc1 hc2 hz0
    have hk0d : decide (0 < k) = false := decide_eq_false (by omega)
    have hk0n : ¬ 0 < k := by omega
    have hk0i : ¬ (0 : Int) < (k : Int) := by omega
    rw [show ((0 : Nat) : Int) = (k : Int) by rw [hk0e], show txtTo l 0 = txtTo l k by rw [hk0e]]
    clear hk0e hk0
    obtain ⟨sp, hsp⟩ : ∃ sp : List UInt8, sp = [] := ⟨_, rfl⟩
    have hspl : sp.length ≤ 1 := by rw [hsp]; simp
    obtain ⟨s0, hs0⟩ : ∃ s0, bs (txtTo l k ++ sp) = s0 := ⟨_, rfl⟩
    have ha0 : bs (txtTo l k) = s0 := by rw [← hs0, hsp]; exact by rw [List.append_nil]
    have hz1 : s0.size ≤ 100000 := by rw [← hs0, bs_size, List.length_append]; omega
    cases ho : openS x
    ·have hfx := HS.out.2.1
     unfold fitS at hfx
     rw [ho, Bool.false_or, Bool.and_eq_true, inB_iff, inB_iff] at hfx
     have hw : wordS x = decW x.1 ++ [47] ++ decW x.2 := by unfold wordS; rw [ho]; rfl
     have hd1 := dec_small hfx.1.1 (Int.le_trans hfx.1.2 (by omega))
     have hd2 := dec_small hfx.2.1 hfx.2.2
     have hC1 := fun w => dec_any x.1 hfx.1.1 (Int.le_trans hfx.1.2 (by omega)) w
     have hC2 := fun w => dec_any x.2 hfx.2.1 hfx.2.2 w
     obtain ⟨d1, hd1e⟩ : ∃ d, bs (decW x.1) = d := ⟨_, rfl⟩
     obtain ⟨d2, hd2e⟩ : ∃ d, bs (decW x.2) = d := ⟨_, rfl⟩
     obtain ⟨s1, hs1⟩ : ∃ s, bs (txtTo l k ++ sp ++ decW x.1) = s := ⟨_, rfl⟩
     obtain ⟨s2, hs2⟩ : ∃ s, bs (txtTo l k ++ sp ++ decW x.1 ++ [47]) = s := ⟨_, rfl⟩
     obtain ⟨s3, hs3⟩ : ∃ s, bs (txtTo l k ++ sp ++ decW x.1 ++ [47] ++ decW x.2) = s := ⟨_, rfl⟩
     have hnx : s3 = bs (txtTo l (k + 1)) := by
      rw [← hs3, HS.out.1, hw, hsp]; simp
     have ha1 : s0 ++ d1 = s1 := by rw [← hs0, ← hd1e, ← hs1]; exact bs_app _ _
     have ha2 : s1 ++ ({ data := #[47] } : ByteArray) = s2 := by rw [← hs1, ← hs2]; exact bs_app _ [47]
     have ha3 : s2 ++ d2 = s3 := by rw [← hs2, ← hd2e, ← hs3]; exact bs_app _ _
     have hq1 : d1.size ≤ 2 := by rw [← hd1e, bs_size]; omega
     have hq2 : d2.size ≤ 2 := by rw [← hd2e, bs_size]; omega
     have hz2 : s1.size ≤ 100002 := by rw [← hs1, bs_size, List.length_append, List.length_append]; omega
     have hz3 : s2.size ≤ 100003 := by rw [← hs2, bs_size, List.length_append, List.length_append, List.length_append]; simp; omega
     have hg1 : s0.size + d1.size ≤ 9223372036854775807 := by omega
     have hg2 : ¬ 9223372036854775807 < s1.size + 1 := by omega
     have hg3 : ¬ 9223372036854775807 < s2.size + d2.size := by omega
     have hg1' : ¬ 9223372036854775807 < s0.size + d1.size := by omega
     simp only [hd1e] at hC1
     simp only [hd2e] at hC2
     have HO := Lib.hid ho; clear ho
     have HX := Lib.hid (And.intro hnx (And.intro hC1 hC2)); clear hfx hnx hd1 hd2 hw hC1 hC2 hd1e hd2e hs0 hs1 hs2 hs3 hsp hspl
     go_wp2_with (go_at_call 37; refine (l19Open_b x _ _ HO.out).mono ?_; rintro e' w5 ⟨rfl, hb5⟩; have hc1' := cell_keep hc1 (hb5.block _ (lt_of_cell hc1)); have hc2' := cell_keep hc2 (hb5.block _ (lt_of_cell hc1)); have hBW := hB.trans (hb5.mono hzW))
     clear hc1 hc2
     refine wp_region_noPanic ?_
     refine wp_region_held_drew (S := fun w' => w'.cell? ⟨b1, off1 + k * 2, none⟩ = some (.int .i64 x.1) ∧ w'.cell? ⟨b1, off1 + k * 2 + 1, none⟩ = some (.int .i64 x.2)) (by kernel_rfl) ⟨cell_keep hc1' rfl, cell_keep hc2' rfl⟩ (fun hHeld => ?_)
     (refine wpAnyH_take (i := 0) (v := .string s0) rfl (by kernel_rfl) (by kernel_rfl) (by kernel_rfl) (fun _ _ _ h => h) (Or.inl ⟨by kernel_rfl, fun w hSw => by (try dsimp only at hSw); go_split_ands; go_simp⟩) (by assumption) ?_; simp only [Act.put, List.setIfInBounds_toArray, List.set_cons_zero, List.set_cons_succ])
     (refine wpAnyH_take (i := 1) (v := .slice (some ⟨b1, off1, none⟩) l.length c) rfl (by kernel_rfl) (by kernel_rfl) (by kernel_rfl) (fun _ _ _ h => h) (Or.inl ⟨by kernel_rfl, fun w hSw => by (try dsimp only at hSw); go_split_ands; go_simp⟩) (by assumption) ?_; simp only [Act.put, List.setIfInBounds_toArray, List.set_cons_zero, List.set_cons_succ])
     (refine wpAnyH_take (i := 2) (v := .int .i64 (k : Int)) rfl (by kernel_rfl) (by kernel_rfl) (by kernel_rfl) (fun _ _ _ h => h) (Or.inl ⟨by kernel_rfl, fun w hSw => by (try dsimp only at hSw); go_split_ands; go_simp⟩) (by assumption) ?_; simp only [Act.put, List.setIfInBounds_toArray, List.set_cons_zero, List.set_cons_succ])
     (refine wpAnyH_take (i := 3) (v := .pointer (some ⟨b1, off1 + k * 2, none⟩)) rfl (by kernel_rfl) (by kernel_rfl) (by kernel_rfl) (fun _ _ _ h => h) (Or.inl ⟨by kernel_rfl, fun w hSw => by (try dsimp only at hSw); go_split_ands; go_simp⟩) (by assumption) ?_; simp only [Act.put, List.setIfInBounds_toArray, List.set_cons_zero, List.set_cons_succ])
     (refine wpAnyH_take (i := 4) (v := .pointer (some ⟨b1, off1 + k * 2, none⟩)) rfl (by kernel_rfl) (by kernel_rfl) (by kernel_rfl) (fun _ _ _ h => h) (Or.inl ⟨by kernel_rfl, fun w hSw => by (try dsimp only at hSw); go_split_ands; go_simp⟩) (by assumption) ?_; simp only [Act.put, List.setIfInBounds_toArray, List.set_cons_zero, List.set_cons_succ])
     (refine wpAnyH_take (i := 5) (v := .int .i64 x.1) rfl (by kernel_rfl) (by kernel_rfl) (by kernel_rfl) (fun _ _ _ h => h) (Or.inl ⟨by kernel_rfl, fun w hSw => by (try dsimp only at hSw); go_split_ands; go_simp⟩) (by assumption) ?_; simp only [Act.put, List.setIfInBounds_toArray, List.set_cons_zero, List.set_cons_succ])
     (refine wpAnyH_take (i := 9) (v := .slice (some ⟨b1, off1, none⟩) l.length c) rfl (by kernel_rfl) (by kernel_rfl) (by kernel_rfl) (fun _ _ _ h => h) (Or.inl ⟨by kernel_rfl, fun w hSw => by (try dsimp only at hSw); go_split_ands; go_simp⟩) (by assumption) ?_; simp only [Act.put, List.setIfInBounds_toArray, List.set_cons_zero, List.set_cons_succ])
     (refine wpAnyH_take (i := 10) (v := .int .i64 (k : Int)) rfl (by kernel_rfl) (by kernel_rfl) (by kernel_rfl) (fun _ _ _ h => h) (Or.inl ⟨by kernel_rfl, fun w hSw => by (try dsimp only at hSw); go_split_ands; go_simp⟩) (by assumption) ?_; simp only [Act.put, List.setIfInBounds_toArray, List.set_cons_zero, List.set_cons_succ])
     (refine wpAnyH_take (i := 11) (v := .pointer (some ⟨b1, off1 + k * 2, none⟩)) rfl (by kernel_rfl) (by kernel_rfl) (by kernel_rfl) (fun _ _ _ h => h) (Or.inl ⟨by kernel_rfl, fun w hSw => by (try dsimp only at hSw); go_split_ands; go_simp⟩) (by assumption) ?_; simp only [Act.put, List.setIfInBounds_toArray, List.set_cons_zero, List.set_cons_succ])
     (refine wpAnyH_take (i := 12) (v := .pointer (some ⟨b1, off1 + k * 2 + 1, none⟩)) rfl (by kernel_rfl) (by kernel_rfl) (by kernel_rfl) (fun _ _ _ h => h) (Or.inl ⟨by kernel_rfl, fun w hSw => by (try dsimp only at hSw); go_split_ands; go_simp⟩) (by assumption) ?_; simp only [Act.put, List.setIfInBounds_toArray, List.set_cons_zero, List.set_cons_succ])
     (refine wpAnyH_take (i := 13) (v := .int .i64 x.2) rfl (by kernel_rfl) (by kernel_rfl) (by kernel_rfl) (fun _ _ _ h => h) (Or.inl ⟨by kernel_rfl, fun w hSw => by (try dsimp only at hSw); go_split_ands; go_simp⟩) (by assumption) ?_; simp only [Act.put, List.setIfInBounds_toArray, List.set_cons_zero, List.set_cons_succ])
     obtain ⟨wd, hwd⟩ : ∃ wd, wd = w5.drew := ⟨_, rfl⟩
     have hbd : Below w5.heap.size w5 wd := by rw [hwd]; exact (Below.refl _ _).drew
     rw [← hwd] at hHeld ⊢
     clear hwd hc1' hc2'
     refine wpAnyH_ready (rs := [6]) (by kernel_rfl) (by simp) (AllReadyH.cons rfl (fun K hK => ?_) AllReadyH.nil)
     go_simp
     go_at_call 46
     refine (HX.out.2.1 _).mono ?_
     rintro e' w6 ⟨rfl, hb⟩
     have hbw6 := hb
     have hSw6 : w6.cell? ⟨b1, off1 + k * 2, none⟩ = some (.int .i64 x.1) ∧ w6.cell? ⟨b1, off1 + k * 2 + 1, none⟩ = some (.int .i64 x.2) := ⟨cell_keep hHeld.1 (hb.block _ (lt_of_cell hHeld.1)), cell_keep hHeld.2 (hb.block _ (lt_of_cell hHeld.2))⟩
     clear hb
     dsimp only
     (refine hK.out _ _ hSw6 (fun hHeld => ?_); clear hK K; (try simp only [Act.put, List.setIfInBounds_toArray, List.set_cons_zero, List.set_cons_succ]))
     (refine wpAnyH_take (i := 7) (v := .string s1) rfl (by kernel_rfl) (by kernel_rfl) (by kernel_rfl) (fun _ _ _ h => h) (Or.inl ⟨by kernel_rfl, fun w hSw => by (try dsimp only at hSw); go_split_ands; go_simp⟩) (by assumption) ?_; simp only [Act.put, List.setIfInBounds_toArray, List.set_cons_zero, List.set_cons_succ])
     (refine wpAnyH_take (i := 8) (v := .string s2) rfl (by kernel_rfl) (by kernel_rfl) (by kernel_rfl) (fun _ _ _ h => h) (Or.inl ⟨by kernel_rfl, fun w hSw => by (try dsimp only at hSw); go_split_ands; go_simp⟩) (by assumption) ?_; simp only [Act.put, List.setIfInBounds_toArray, List.set_cons_zero, List.set_cons_succ])
     refine wpAnyH_ready (rs := [14]) (by kernel_rfl) (by simp) (AllReadyH.cons rfl (fun K hK => ?_) AllReadyH.nil)
     go_simp
     go_at_call 46
     refine (HX.out.2.2 _).mono ?_
     rintro e' w7 ⟨rfl, hb⟩
     have hbw7 := hb
     have hSw7 : w7.cell? ⟨b1, off1 + k * 2, none⟩ = some (.int .i64 x.1) ∧ w7.cell? ⟨b1, off1 + k * 2 + 1, none⟩ = some (.int .i64 x.2) := ⟨cell_keep hSw6.1 (hb.block _ (lt_of_cell hSw6.1)), cell_keep hSw6.2 (hb.block _ (lt_of_cell hSw6.2))⟩
     clear hb
     dsimp only
     (refine hK.out _ _ hSw7 (fun hHeld => ?_); clear hK K; (try simp only [Act.put, List.setIfInBounds_toArray, List.set_cons_zero, List.set_cons_succ]))
     (refine wpAnyH_take (i := 15) (v := .string s3) rfl (by kernel_rfl) (by kernel_rfl) (by kernel_rfl) (fun _ _ _ h => h) (Or.inl ⟨by kernel_rfl, fun w hSw => by (try dsimp only at hSw); go_split_ands; go_simp⟩) (by assumption) ?_; simp only [Act.put, List.setIfInBounds_toArray, List.set_cons_zero, List.set_cons_succ])
     (refine wpAnyH_ready (rs := [16]) (by kernel_rfl) (by simp) (AllReadyH.cons rfl (fun K hK => ?_) AllReadyH.nil); go_simp)
     (refine hK.out _ _ hSw7 (fun hHeld => ?_); clear hK K; (try simp only [Act.put, List.setIfInBounds_toArray, List.set_cons_zero, List.set_cons_succ]))
     refine wpAnyH_done (by kernel_rfl) (NoPanic.normal ?_) _
     go_wp2_with fail
     go_roundw
     case rel => exact ⟨k + 1, by omega, by go_num, by rw [HX.out.1], (hBW.trans ((hbd.trans ((hbw6.mono hbd.size).trans (hbw7.mono (Nat.le_trans hbd.size hbw6.size)))).mono hBW.size))⟩
     case measure => simp [intOf]; omega
    ·have hw : wordS x = [43] := by unfold wordS; rw [if_pos ho]
     obtain ⟨s1, hs1⟩ : ∃ s, bs (txtTo l k ++ sp ++ [43]) = s := ⟨_, rfl⟩
     have hnx : s1 = bs (txtTo l (k + 1)) := by rw [← hs1, HS.out.1, hw, hsp]
     have ha1 : s0 ++ ({ data := #[43] } : ByteArray) = s1 := by rw [← hs0, ← hs1]; exact bs_app _ [43]
     have hg1 : ¬ 9223372036854775807 < s0.size + 1 := by omega
     have HO := Lib.hid ho; clear ho
     have HX := Lib.hid hnx; clear hnx hw hs0 hs1 hsp hspl
     go_wp2_with (go_at_call 37; refine (l19Open_b x _ _ HO.out).mono ?_; rintro e' w5 ⟨rfl, hb5⟩; have hBW := hB.trans (hb5.mono hzW))
     go_roundw
     case rel => exact ⟨k + 1, by omega, by go_num, by rw [HX.out], hBW⟩
     case measure => simp [intOf]; omega
  ·obtain rfl : k = l.length := by omega
   have hkd : decide (l.length < l.length) = false := decide_eq_false (Nat.lt_irrefl _)
   go_wp2_with fail
   go_ret
   exact ⟨rfl, hB⟩
theorem stx_code (l : List (Int × Int)) : (stxAns l).2 = codeS l := by
 unfold stxAns codeS
 split
 ·rfl
 ·split <;> rfl
set_option maxRecDepth 100000 in
set_option maxHeartbeats 1000000 in
theorem StepsTextR_any {S : Nat → Prop} (v : Value) (l : List (Int × Int)) (W : World) (h : VS S W v l) :
  Calls Tryz.prog 7 #[v] W fun e' w' => e' = .returned (.tuple #[.string (bs (stxAns l).1), .int .i64 (stxAns l).2]) ∧ Below W.heap.size W w' := by
 have hV := h
 obtain ⟨a, c, rfl, hm⟩ := h.form
 by_cases hc0 : codeS l = 0
 ·have hf : fitTo l l.length = true ∧ l.length ≤ 1200 := by
   unfold codeS at hc0
   split at hc0
   ·cases hc0
   ·split at hc0
    ·cases hc0
    ·rename_i h1 h2
     exact ⟨by simpa using h1, by omega⟩
  have hans : stxAns l = (txtTo l l.length, 0) := by
   unfold stxAns
   rw [if_neg (by rw [hf.1]; decide), if_neg (by omega)]
  have H := Lib.hid (And.intro hc0 (And.intro hf hans)); clear hc0 hf hans
  go_enter Tryz.func7, Tryz.ntmps7
  go_wp2_with fail
  refine (l19Code_any _ l W hV).mono ?_
  rintro e' w2 ⟨rfl, hb2⟩
  rw [H.out.1]
  go_wp2_with fail
  refine (l19Text_any _ l w2 (hV.below hb2) H.out.2.1.1 H.out.2.1.2).mono ?_
  rintro e' w3 ⟨rfl, hb3⟩
  go_wp2_with fail
  go_ret2
  exact ⟨by rw [H.out.2.2]; rfl, hb2.trans (hb3.mono hb2.size)⟩
 ·have hans : (stxAns l).1 = [] := by
   unfold codeS at hc0
   unfold stxAns
   split
   ·rfl
   ·split
    ·rfl
    ·rename_i h1 h2
     rw [if_neg h1, if_neg h2] at hc0
     exact absurd rfl hc0
  have hcd := stx_code l
  have hnd : (codeS l != 0) = true := by simp [hc0]
  obtain ⟨q, hq⟩ : ∃ q, codeS l = q := ⟨_, rfl⟩
  rw [hq] at hnd hcd
  have H := Lib.hid (And.intro hq (And.intro hans hcd)); clear hc0 hans hq hcd
  go_enter Tryz.func7, Tryz.ntmps7
  go_wp2_with fail
  refine (l19Code_any _ l W hV).mono ?_
  rintro e' w2 ⟨rfl, hb2⟩
  rw [H.out.1]
  go_wp2_with fail
  go_ret2
  exact ⟨by rw [H.out.2.1, H.out.2.2]; rfl, hb2⟩
def splitL (c : UInt8) : List UInt8 → List (List UInt8)
 | [] => [[]]
 | x :: r => if x = c then [] :: splitL c r else match splitL c r with
   | [] => [[x]]
   | w :: ws => (x :: w) :: ws
theorem splitL_cons (c x : UInt8) (r : List UInt8) : splitL c (x :: r) = if x = c then [] :: splitL c r else match splitL c r with
  | [] => [[x]]
  | w :: ws => (x :: w) :: ws := by rw [splitL]
theorem splitL_ne (c : UInt8) : ∀ l, splitL c l ≠ []
 | [] => by simp [splitL]
 | x :: r => by
   unfold splitL
   split
   ·simp
   ·split <;> simp
theorem splitL_join (c : UInt8) : ∀ l, Lib.join (splitL c l) [c] = l
 | [] => by simp [splitL, Lib.join_one]
 | x :: r => by
   have ih := splitL_join c r
   have hne := splitL_ne c r
   unfold splitL
   cases hs : splitL c r with
   | nil => exact absurd hs hne
   | cons w ws =>
     rw [hs, Lib.join_cons] at ih
     split
     ·rename_i e
      subst e
      rw [Lib.join_cons]
      simp only [List.nil_append, Lib.joinTail, List.map_cons, List.flatten_cons]
      show ([x] ++ w) ++ Lib.joinTail [x] ws = x :: r
      rw [← ih]; simp
     ·show Lib.join ((x :: w) :: ws) [c] = x :: r
      rw [Lib.join_cons, List.cons_append, ih]
theorem splitL_last {c : UInt8} : ∀ {p : List UInt8}, (∀ x ∈ p, x ≠ c) → splitL c p = [p]
 | [], _ => rfl
 | x :: p, h => by
   unfold splitL
   rw [if_neg (h x (by simp)), splitL_last (p := p) fun y hy => h y (by simp [hy])]
theorem splitL_pre {c : UInt8} {r : List UInt8} : ∀ {p : List UInt8}, (∀ x ∈ p, x ≠ c) → splitL c (p ++ c :: r) = p :: splitL c r
 | [], _ => by show splitL c (c :: r) = _; rw [splitL_cons, if_pos rfl]
 | x :: p, h => by
   show splitL c (x :: (p ++ c :: r)) = _
   rw [splitL_cons, if_neg (h x (by simp)), splitL_pre (p := p) fun y hy => h y (by simp [hy])]
theorem index_one (c b : UInt8) (l : List UInt8) : Lib.index (b :: l) [c] = if b = c then 0 else if Lib.index l [c] == -1 then -1 else Lib.index l [c] + 1 := by
 rw [Lib.index]
 by_cases h : b = c
 ·subst h; simp
 ·rw [if_neg h]
  have : ([c] : List UInt8).isPrefixOf (b :: l) = false := by simp [List.isPrefixOf]; exact fun e => h e.symm
  rw [this, if_neg (by decide)]
theorem index_ge (c : UInt8) : ∀ l : List UInt8, Lib.index l [c] = -1 ∨ 0 ≤ Lib.index l [c]
 | [] => .inl (by simp [Lib.index])
 | b :: l => by
   rw [index_one]
   split
   ·exact .inr (Int.le_refl _)
   ·split
    ·exact .inl rfl
    ·rename_i h1 h2
     rcases index_ge c l with h | h
     ·rw [h] at h2; exact absurd rfl h2
     ·exact .inr (by omega)
theorem split_lib (c : UInt8) : ∀ s : List UInt8, Lib.split s [c] = splitL c s
 | [] => by
   have h : Lib.count [] [c] = 0 := by rw [Lib.count_one]; rfl
   unfold Lib.split
   rw [h]
   rfl
 | b :: l => by
   have ih := split_lib c l
   unfold Lib.split at ih ⊢
   by_cases hb : b = c
   ·subst hb
    rw [Lib.count_cons_eq, Nat.add_comm]
    unfold Lib.splitK splitL
    have hi : Lib.index (b :: l) [b] = 0 := by rw [index_one, if_pos rfl]
    rw [if_pos rfl, hi, if_neg (by decide)]
    simp only [Int.toNat_zero, Nat.zero_add, List.length_cons, List.length_nil, List.take_zero, List.drop_succ_cons, List.drop_zero]
    rw [ih]
   ·rw [Lib.count_cons_ne _ _ _ hb]
    unfold splitL
    rw [if_neg hb, ← ih]
    have hi : Lib.index (b :: l) [c] = if Lib.index l [c] == -1 then -1 else Lib.index l [c] + 1 := by rw [index_one, if_neg hb]
    cases hk : Lib.count l [c] with
    | zero => rfl
    | succ k =>
      have hm : ¬ Lib.index l [c] = -1 := fun e => by rw [Lib.count_miss e] at hk; cases hk
      have hm2 : ¬ (Lib.index l [c] == -1) = true := fun e => hm (beq_iff_eq.1 e)
      have hg := (index_ge c l).resolve_left hm
      rw [if_neg hm2] at hi
      have hi2 : ¬ (Lib.index (b :: l) [c] == -1) = true := fun e => by have := beq_iff_eq.1 e; omega
      unfold Lib.splitK
      rw [if_neg hi2, if_neg hm2, hi]
      rw [show (Lib.index l [c] + 1).toNat = (Lib.index l [c]).toNat + 1 by omega]
      simp [List.take_succ_cons, List.drop_succ_cons, Nat.add_right_comm]
end Go.Proofs.YtbekpololmahoaaGreatDoor
