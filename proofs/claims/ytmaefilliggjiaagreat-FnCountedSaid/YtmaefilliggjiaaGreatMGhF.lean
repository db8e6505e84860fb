/- A list of lists in memory of one's own, with the blocks named; the visit that gathers the first outsiders of a kind. No conditions. -/
import Derived.Test.YtmaefilliggjiaaGreatMShelf0
import Derived.Test.YtmaefilliggjiaaGreatMGen
import Derived.Test.YtmaefilliggjiaaGreatMEach5
import Derived.Test.YtmaefilliggjiaaGreatMRefFirst
import Derived.Test.YtmaefilliggjiaaGreatMLib
import Derived.Test.YtmaefilliggjiaaGreatMFindO
import Derived.Test.YtmaefilliggjiaaGreatMGoC
import Derived.Test.YtmaefilliggjiaaGreatMTightP
namespace Go.Proofs.YtmaefilliggjiaaGreat
open Go.RowKit
set_option linter.unusedVariables false
set_option linter.unusedSimpArgs false
/-- As Out2, the rows' values and their blocks named. -/
def Out2x (B : Nat) (w : World) (v : Value) (ls : List (List Int)) (vs : List Value) (bk : Nat → Nat) : Prop :=
 w.ownsRow B 35 1 v ls.length vs ∧ (∀ k, k < ls.length → ∃ rv, vs[k]? = some rv ∧ X1 w rv (getl ls k) (bk k)) ∧
  (∀ k, k < ls.length → getl ls k ≠ [] → B ≤ bk k ∧ v.ownBlock ≠ some (bk k) ∧ ∀ j, j < ls.length → j ≠ k → getl ls j ≠ [] → bk j ≠ bk k)
theorem Out2x.out {B : Nat} {w : World} {v : Value} {ls : List (List Int)} {vs : List Value} {bk : Nat → Nat} (h : Out2x B w v ls vs bk) : Out2 B w v ls := ⟨vs, bk, h.1, h.2.1, h.2.2⟩
theorem Out2x.push {B : Nat} {w w2 w1 : World} {v v1 rv : Value} {ls : List (List Int)} {l : List Int} {b : Nat} {vs : List Value} {bk : Nat → Nat}
  (h : Out2x B w v ls vs bk)
  (hB : B ≤ w.heap.size) (hb : Below w.heap.size w w2) (hx : X1 w2 rv l b) (hbn : l ≠ [] → w.heap.size ≤ b)
  (hown : w1.ownsRow B 35 1 v1 (ls.length + 1) (vs ++ [rv])) (hg : w2.grownBy w1 v.ownBlock) (hblk : v1.ownBlock = v.ownBlock ∨ ∃ g, v1.ownBlock = some g ∧ w2.heap.size ≤ g) : Out2x B w1 v1 (ls ++ [l]) (vs ++ [rv]) (fun k => if k < ls.length then bk k else b) := by
 obtain ⟨h1, h2, h3⟩ := h
 have hvl : ∀ g, v.ownBlock = some g → g < w.heap.size := fun g hgg => (h1.lt g hgg).2
 have hxl : ∀ k, k < ls.length → getl ls k ≠ [] → bk k < w.heap.size := fun k hk hn => by
  obtain ⟨rv, _, h⟩ := h2 k hk; exact h.lt hn
 have hne1 : ∀ c, c < w2.heap.size → v.ownBlock ≠ some c → v1.ownBlock ≠ some c := fun c hc hn e => by
  rcases hblk with e1 | ⟨g, e1, hge⟩
  ·exact hn (e1.symm.trans e)
  ·rw [e] at e1; cases e1; omega
 have hvl1 := h1.1
 refine ⟨by simpa using hown, fun k hk => ?_, fun k hk hn => ?_⟩
 ·by_cases hkl : k < ls.length
  ·obtain ⟨rv', h4, h5⟩ := h2 k hkl
   refine ⟨rv', by rw [List.getElem?_append_left (by omega)]; exact h4, ?_⟩
   rw [getl_app1 hkl]
   simp only [hkl, if_true]
   exact h5.keep fun hn => by
    rw [hg.block _ (Nat.lt_of_lt_of_le (hxl k hkl hn) hb.size) (fun e => (h3 k hkl hn).2.1 e.symm), hb.block _ (hxl k hkl hn)]
  ·have e : k = ls.length := by simp at hk; omega
   subst e
   refine ⟨rv, by rw [List.getElem?_append_right (by omega)]; simp [show ls.length - vs.length = 0 by omega], ?_⟩
   rw [getl_app2]
   simp only [Nat.lt_irrefl, if_false]
   exact hx.keep fun hn => hg.block _ (hx.lt hn) (fun e => by have := hvl b e.symm; have := hbn hn; omega)
 ·by_cases hkl : k < ls.length
  ·rw [getl_app1 hkl] at hn
   simp only [hkl, if_true]
   obtain ⟨h4, h5, h6⟩ := h3 k hkl hn
   refine ⟨h4, hne1 _ (Nat.lt_of_lt_of_le (hxl k hkl hn) hb.size) h5, fun j hj hjk hnj => ?_⟩
   by_cases hjl : j < ls.length
   ·rw [getl_app1 hjl] at hnj
    simp only [hjl, if_true]
    exact h6 j hjl hjk hnj
   ·have e : j = ls.length := by simp at hj; omega
    subst e
    rw [getl_app2] at hnj
    simp only [Nat.lt_irrefl, if_false]
    have := hbn hnj; have := hxl k hkl hn; omega
  ·have e : k = ls.length := by simp at hk; omega
   subst e
   rw [getl_app2] at hn
   simp only [Nat.lt_irrefl, if_false]
   refine ⟨by have := hbn hn; omega, hne1 _ (hx.lt hn) (fun e => by have := hvl b e; have := hbn hn; omega), fun j hj hjk hnj => ?_⟩
   have hjl : j < ls.length := by simp at hj; omega
   rw [getl_app1 hjl] at hnj
   simp only [hjl, if_true]
   have := hbn hn; have := hxl j hjl hnj; omega
/-- The blocks that a list of lists stands in, and the one of the cell that holds it. -/
def OutF (OB : Nat) (v : Value) (ls : List (List Int)) (bk : Nat → Nat) (b : Nat) : Prop := b = OB ∨ v.ownBlock = some b ∨ ∃ k, k < ls.length ∧ getl ls k ≠ [] ∧ b = bk k
theorem Out2x.stay {B OB : Nat} {w w' : World} {v : Value} {ls : List (List Int)} {vs : List Value} {bk : Nat → Nat} (h : Out2x B w v ls vs bk) (hk : ∀ b, OutF OB v ls bk b → w'.heap[b]? = w.heap[b]?) : Out2x B w' v ls vs bk := by
 obtain ⟨h1, h2, h3⟩ := h
 refine ⟨⟨h1.1, ?_⟩, fun k hkl => ?_, h3⟩
 ·rcases h1.2 with h0 | ⟨g, cap, cur, rfl, h4, h5, h6⟩
  ·exact .inl h0
  ·exact .inr ⟨g, cap, cur, rfl, h4, by rw [hk g (.inr (.inl rfl))]; exact h5, h6⟩
 ·obtain ⟨rv, h4, h5⟩ := h2 k hkl
  exact ⟨rv, h4, h5.keep fun hn => hk _ (.inr (.inr ⟨k, hkl, hn, rfl⟩))⟩
theorem Out2x.lt {B OB : Nat} {w : World} {v : Value} {ls : List (List Int)} {vs : List Value} {bk : Nat → Nat} (h : Out2x B w v ls vs bk) (ho : OB < w.heap.size) : ∀ b, OutF OB v ls bk b → b < w.heap.size := by
 rintro b (rfl | h1 | ⟨k, h1, h2, rfl⟩)
 ·exact ho
 ·exact (h.1.lt _ h1).2
 ·obtain ⟨rv, _, h5⟩ := h.2.1 k h1
  exact h5.lt h2
/-- The blocks that a list of lists stands in. -/
def OutG (v : Value) (ls : List (List Int)) (bk : Nat → Nat) (b : Nat) : Prop := v.ownBlock = some b ∨ ∃ k, k < ls.length ∧ getl ls k ≠ [] ∧ b = bk k
theorem Out2x.lo {B : Nat} {w w' : World} {v : Value} {ls : List (List Int)} {vs : List Value} {bk : Nat → Nat} (h : Out2x B w v ls vs bk) (hk : ∀ b, OutG v ls bk b → w'.heap[b]? = w.heap[b]?) : Out2x B w' v ls vs bk := by
 obtain ⟨h1, h2, h3⟩ := h
 refine ⟨⟨h1.1, ?_⟩, fun k hkl => ?_, h3⟩
 ·rcases h1.2 with h0 | ⟨g, cap, cur, rfl, h4, h5, h6⟩
  ·exact .inl h0
  ·exact .inr ⟨g, cap, cur, rfl, h4, by rw [hk g (.inl rfl)]; exact h5, h6⟩
 ·obtain ⟨rv, h4, h5⟩ := h2 k hkl
  exact ⟨rv, h4, h5.keep fun hn => hk _ (.inr ⟨k, hkl, hn, rfl⟩)⟩
theorem OutG.push {b3 z : Nat} {v v' : Value} {ls : List (List Int)} {l : List Int} {bk : Nat → Nat} (hblk : v'.ownBlock = v.ownBlock ∨ ∃ g, v'.ownBlock = some g ∧ z ≤ g) (hb3 : l ≠ [] → z ≤ b3) :
  ∀ b, OutG v' (ls ++ [l]) (fun k => if k < ls.length then bk k else b3) b → OutG v ls bk b ∨ z ≤ b := by
 rintro b (h1 | ⟨k, h1, h2, rfl⟩)
 ·rcases hblk with e | ⟨g, e, hz⟩
  ·exact .inl (.inl (e ▸ h1))
  ·rw [e] at h1; cases h1; exact .inr hz
 ·by_cases hk : k < ls.length
  ·rw [getl_app1 hk] at h2
   simp only [hk, if_true]
   exact .inl (.inr ⟨k, hk, h2, rfl⟩)
  ·have e : k = ls.length := by simp at h1; omega
   subst e
   rw [getl_app2] at h2
   simp only [Nat.lt_irrefl, if_false]
   exact .inr (hb3 h2)
theorem F1.nil {B : Nat} {w : World} : F1 B w (.slice none 0 0) [] := ⟨0, ⟨none, 0, rfl, Nat.le_refl _, Nat.zero_le _, fun hn => absurd rfl hn⟩, fun hn => absurd rfl hn⟩
theorem gen_nodup (m : Mk) : ∀ (rem : Nat) (pre : List Int), (gen m rem pre).Nodup
 | 0, pre => by unfold gen; split <;> simp
 | rem + 1, pre => by
   rw [gen_succ]
   unfold List.Nodup
   rw [List.pairwise_flatMap]
   have hbr : ∀ x k, k ∈ branch m rem pre x → ∃ r, k = pre ++ x :: r := fun x k hk => by
    unfold branch at hk
    split at hk
    ·obtain ⟨r, hr⟩ := ((gen_mem rem (pre ++ [x]) k).1 hk).1
     exact ⟨r, by rw [← hr]; simp⟩
    ·cases hk
   refine ⟨fun x _ => ?_, ?_⟩
   ·unfold branch
    split
    ·exact gen_nodup m rem _
    ·exact List.Pairwise.nil
   ·have hd : (depths 0 m.d.toNat).Pairwise (· < ·) := by
     unfold depths
     rw [List.pairwise_map]
     exact List.Pairwise.imp (fun h => by omega) (List.pairwise_lt_range (n := m.d.toNat - 0))
    refine hd.imp fun {x y} hxy a ha b hb e => ?_
    obtain ⟨r, rfl⟩ := hbr x a ha
    obtain ⟨r2, h2⟩ := hbr y b hb
    rw [h2] at e
    have := (List.append_cancel_left e)
    injection this with h3 _
    omega
theorem keysOf_nodup (m : Mk) : (keysOf m).Nodup := gen_nodup m _ _
theorem stay_nil {n : Nat} {t c : List (List Int)} {k : List Int} (h : stayP n t c k = true) : falseL n t (c ++ [k]) = [] := by
 unfold stayP openP at h
 exact List.eq_nil_of_length_eq_zero (of_decide_eq_true h)
def desAns (m : Mk) (t : List (List Int)) (most limit : Int) : List (List (List Int)) × Int :=
 if searchC m t [] limit ≠ 0 then ([], searchC m t [] limit) else if inB most 0 10 = false then ([], 2)
 else if (firstF m.c.toNat t (keysOf m) [] most limit.toNat).2.1 = true then ([], 3) else ((firstF m.c.toNat t (keysOf m) [] most limit.toNat).2.2, 0)
theorem goF_few {limit n : Nat} {m : Mk} {t : List (List Int)} {most : Int} : ∀ {d : Nat} {cuts : List (List Int)} {s : DSt}, (s.2.2.length : Int) < most → ((goF limit (stayP n t) (visK most) (keysOf m) d cuts s).1.2.2.length : Int) ≤ most ∧ ((goF limit (stayP n t) (visK most) (keysOf m) d cuts s).2 = true → ((goF limit (stayP n t) (visK most) (keysOf m) d cuts s).1.2.2.length : Int) < most)
 | 0, cuts, s, h => by
   refine ⟨by show ((s.2.2 ++ [cuts]).length : Int) ≤ most; simp; omega, fun h2 => ?_⟩
   have h3 : decide ((s.2.2.length : Int) + 1 < most) = true := h2
   have := of_decide_eq_true h3
   show ((s.2.2 ++ [cuts]).length : Int) < most
   simp; omega
 | d + 1, cuts, s, h => by
   have key : ∀ (l : List (List Int)) (s : DSt), (s.2.2.length : Int) < most → ((runL (goStep limit (stayP n t) (goF limit (stayP n t) (visK most) (keysOf m) d) cuts) s l).1.2.2.length : Int) ≤ most ∧
     ((runL (goStep limit (stayP n t) (goF limit (stayP n t) (visK most) (keysOf m) d) cuts) s l).2 = true → ((runL (goStep limit (stayP n t) (goF limit (stayP n t) (visK most) (keysOf m) d) cuts) s l).1.2.2.length : Int) < most) := by
    intro l
    induction l with
    | nil => intro s h; exact ⟨by show (s.2.2.length : Int) ≤ most; omega, fun _ => h⟩
    | cons k l ih =>
      intro s h
      have h1 : ((goStep limit (stayP n t) (goF limit (stayP n t) (visK most) (keysOf m) d) cuts s k).1.2.2.length : Int) ≤ most ∧ ((goStep limit (stayP n t) (goF limit (stayP n t) (visK most) (keysOf m) d) cuts s k).2 = true → ((goStep limit (stayP n t) (goF limit (stayP n t) (visK most) (keysOf m) d) cuts s k).1.2.2.length : Int) < most) := by
       unfold goStep
       split
       ·exact ⟨by show (s.2.2.length : Int) ≤ most; omega, fun h2 => by cases h2⟩
       ·split
        ·exact goF_few h
        ·exact ⟨by show (s.2.2.length : Int) ≤ most; omega, fun _ => h⟩
      unfold runL
      by_cases hk : (goStep limit (stayP n t) (goF limit (stayP n t) (visK most) (keysOf m) d) cuts s k).2 = true
      ·rw [if_pos hk]; exact ih _ (h1.2 hk)
      ·rw [if_neg hk]; exact ⟨h1.1, fun h2 => by cases h2⟩
   exact key (keysOf m) s h
theorem firstF_few {m : Mk} {n : Nat} {t cuts : List (List Int)} {most : Int} {limit : Nat} (h : 0 ≤ most) : ((firstF n t (keysOf m) cuts most limit).2.2.length : Int) ≤ most := by
 unfold firstF
 split
 ·exact (goF_few (by show ((0 : Nat) : Int) < most; omega)).1
 ·show ((0 : Nat) : Int) ≤ most; omega
def DesRes (B : Nat) (ans : List (List (List Int)) × Int) (e : Ending) (w' : World) : Prop := ∃ v' vs L U, e = .returned (.tuple #[v', .int .i64 ans.2]) ∧ Out3 B L U w' v' vs ans.1
theorem Out3.nil {B : Nat} {w : World} : Out3 B (fun _ => 0) (fun _ => 0) w (.slice none 0 0) [] [] := ⟨⟨rfl, .inl ⟨rfl, rfl⟩⟩, fun k hk => by simp at hk, fun k hk => by simp at hk⟩
theorem V2.nil6 {S : Nat → Prop} {w : World} : V2 S w (.slice none 0 0) [] := ⟨none, 0, rfl, Nat.le_refl _, Nat.zero_le _, fun k hk => by simp at hk⟩
set_option maxRecDepth 100000 in
set_option maxHeartbeats 1000000 in
theorem DesignsOf_x {S : Nat → Prop} (m : Mk) (u : Value) (t : List (List Int)) (most limit : Int) (W : World) (h : V2 S W u t) :
  Calls Tryz.prog 61 #[.agg #[.int .i64 m.c, .int .i64 m.d, .int .i64 m.s, .int .i64 m.e, .int .i64 m.l, u], .int .i64 most, .int .i64 limit] W fun e' w' => DesRes W.heap.size (desAns m t most limit) e' w' ∧ Below W.heap.size W w' := by
 obtain ⟨a, c, rfl, hmx⟩ := h.form
 obtain ⟨W1, hW1, hB01, hz01, HZ01, hc01, hh01⟩ := box_facts W #[.int .i64 m.c, .int .i64 m.d, .int .i64 m.s, .int .i64 m.e, .int .i64 m.l, .slice a t.length c] 28
 have hV1 : V2 (fun _ => True) W1 (.slice a t.length c) t := (h.below hB01).any
 have hsc := searchCode_any m _ (.slice none 0 0) t [] limit W1 hV1 (V2.nil6 (S := fun _ => True))
 by_cases hp : searchC m t [] limit = 0
 ·obtain ⟨hok, hlim, hop⟩ := searchC_ok.1 hp
  rw [hp] at hsc
  obtain ⟨L, rfl⟩ : ∃ L : Nat, limit = (L : Int) := ⟨limit.toNat, by omega⟩
  cases hi : inB most 0 10
  ·have hfin : desAns m t most (L : Int) = ([], 2) := by unfold desAns; rw [if_neg (by rw [hp]; simp), if_pos hi]
   rw [hfin]
   have H := Lib.hid (And.intro hsc (And.intro hi hfin)); clear hsc hi hfin hp hok hlim hop
   go_enter Tryz.func61, Tryz.ntmps61
   go_wp2_with fail
   rw [← hW1]
   refine H.out.1.mono ?_
   rintro e' w2 ⟨rfl, hb2⟩
   have hz2 := hb2.size
   have hx2 : ∀ o, w2.cell? ⟨W.heap.size, o, none⟩ = (#[.int .i64 m.c, .int .i64 m.d, .int .i64 m.s, .int .i64 m.e, .int .i64 m.l, .slice a t.length c] : Array Value)[o]? := fun o => by rw [(bcell hb2).1 _ _ hz01, hc01]
   clear hc01 hh01
   go_wp2_with (go_at_call 166; refine (within_b _ _ _ _ _ H.out.2.1).mono ?_; rintro e' w' ⟨rfl, rfl⟩)
   go_ret2
   exact ⟨⟨_, _, _, _, rfl, Out3.nil⟩, hB01.trans (hb2.mono (by omega))⟩
  ·have hmost := inB_iff.1 hi
   have hfin : desAns m t most (L : Int) = if (firstF m.c.toNat t (keysOf m) [] most L).2.1 = true then ([], 3) else ((firstF m.c.toNat t (keysOf m) [] most L).2.2, 0) := by
    unfold desAns; rw [if_neg (by rw [hp]; simp), if_neg (by rw [hi]; decide)]; rfl
   have hfd := fun w (hb : Below W1.heap.size W1 w) => firstDesigns_any m (.slice a t.length c) (.slice none 0 0) t [] most L w (hV1.below hb) (V2.nil6 (S := fun _ => True)) (fun _ => .inl rfl) hok hop (by omega) (by omega)
   obtain ⟨r, hr⟩ : ∃ r, firstF m.c.toNat t (keysOf m) [] most L = r := ⟨_, rfl⟩
   rw [hr] at hfin
   simp only [hr] at hfd
   rw [hfin]
   obtain ⟨r1, r2, rl⟩ := r
   have H := Lib.hid (And.intro hsc (And.intro hi (And.intro hfd hfin))); clear hsc hi hfd hfin hp hok hlim hop hr hmost
   cases r2
   ·skip
    go_enter Tryz.func61, Tryz.ntmps61
    go_wp2_with fail
    rw [← hW1]
    refine H.out.1.mono ?_
    rintro e' w2 ⟨rfl, hb2⟩
    have hz2 := hb2.size
    have hx2 : ∀ o, w2.cell? ⟨W.heap.size, o, none⟩ = (#[.int .i64 m.c, .int .i64 m.d, .int .i64 m.s, .int .i64 m.e, .int .i64 m.l, .slice a t.length c] : Array Value)[o]? := fun o => by rw [(bcell hb2).1 _ _ hz01, hc01]
    clear hc01 hh01
    go_wp2_with (go_at_call 166; refine (within_b _ _ _ _ _ H.out.2.1).mono ?_; rintro e' w' ⟨rfl, rfl⟩)
    refine (H.out.2.2.1 _ hb2).mono ?_
    rintro e' w3 ⟨⟨dv, XB, vs, LL, UU, fv, rfl, hX, hO⟩, hb3⟩
    have cX4 : w3.cell? ⟨XB, 8, none⟩ = some (.bool false) := by rw [cell_of_block hX]; rfl
    have hz3 := hb3.size
    have hO' : Out3 W.heap.size LL UU w3 dv vs rl := ⟨own_base hO.own (by omega), hO.each, fun k hk => by obtain ⟨h1, h2⟩ := hO.apart k hk; exact ⟨by omega, h2⟩⟩
    have HF := Lib.hid (And.intro hO' (hB01.trans ((hb2.trans (hb3.mono hz2)).mono (by omega)))); clear hX hO hb3 hx2 hO'
    obtain ⟨da, dc, rfl, _, _⟩ := HF.out.1.form
    go_wp2_with fail
    go_ret2
    exact ⟨⟨_, _, _, _, rfl, HF.out.1⟩, HF.out.2⟩
   ·skip
    go_enter Tryz.func61, Tryz.ntmps61
    go_wp2_with fail
    rw [← hW1]
    refine H.out.1.mono ?_
    rintro e' w2 ⟨rfl, hb2⟩
    have hz2 := hb2.size
    have hx2 : ∀ o, w2.cell? ⟨W.heap.size, o, none⟩ = (#[.int .i64 m.c, .int .i64 m.d, .int .i64 m.s, .int .i64 m.e, .int .i64 m.l, .slice a t.length c] : Array Value)[o]? := fun o => by rw [(bcell hb2).1 _ _ hz01, hc01]
    clear hc01 hh01
    go_wp2_with (go_at_call 166; refine (within_b _ _ _ _ _ H.out.2.1).mono ?_; rintro e' w' ⟨rfl, rfl⟩)
    refine (H.out.2.2.1 _ hb2).mono ?_
    rintro e' w3 ⟨⟨dv, XB, vs, LL, UU, fv, rfl, hX, hO⟩, hb3⟩
    have cX4 : w3.cell? ⟨XB, 8, none⟩ = some (.bool true) := by rw [cell_of_block hX]; rfl
    have HF := Lib.hid (hB01.trans ((hb2.trans (hb3.mono hz2)).mono (by omega)))
    obtain ⟨da, dc, rfl, _, _⟩ := hO.form
    clear hX hO hb3 hx2
    go_wp2_with fail
    go_ret2
    exact ⟨⟨_, _, _, _, rfl, Out3.nil⟩, HF.out⟩
 ·have hfin : desAns m t most limit = ([], searchC m t [] limit) := by unfold desAns; rw [if_pos hp]
  have e1 : (searchC m t [] limit != 0) = true := by simp [hp]
  rw [hfin]
  have H := Lib.hid (And.intro hsc hfin); clear hsc hfin hp
  generalize searchC m t [] limit = pc at *
  go_enter Tryz.func61, Tryz.ntmps61
  go_wp2_with fail
  rw [← hW1]
  refine H.out.1.mono ?_
  rintro e' w2 ⟨rfl, hb2⟩
  have hz2 := hb2.size
  have hx2 : ∀ o, w2.cell? ⟨W.heap.size, o, none⟩ = (#[.int .i64 m.c, .int .i64 m.d, .int .i64 m.s, .int .i64 m.e, .int .i64 m.l, .slice a t.length c] : Array Value)[o]? := fun o => by rw [(bcell hb2).1 _ _ hz01, hc01]
  clear hc01 hh01
  clear hx2
  go_wp2_with fail
  go_ret2
  exact ⟨⟨_, _, _, _, rfl, Out3.nil⟩, hB01.trans (hb2.mono (by omega))⟩
/-- All designs that begin with open cuts, in order; so many rows are left. -/
def desL (n : Nat) (t keys : List (List Int)) : Nat → List (List Int) → List (List (List Int))
 | 0, cuts => [cuts]
 | d + 1, cuts => keys.flatMap fun k => if stayP n t cuts k = true then desL n t keys d (cuts ++ [k]) else []
/-- The tries that it takes to find them. -/
def triL (n : Nat) (t keys : List (List Int)) : Nat → List (List Int) → Nat
 | 0, _ => 0
 | d + 1, cuts => (keys.map fun k => 1 + if stayP n t cuts k = true then triL n t keys d (cuts ++ [k]) else 0).sum
/-- The same for some of the keys of the next row. -/
def desK (n : Nat) (t keys : List (List Int)) (d : Nat) (cuts ks : List (List Int)) : List (List (List Int)) := ks.flatMap fun k => if stayP n t cuts k = true then desL n t keys d (cuts ++ [k]) else []
def triK (n : Nat) (t keys : List (List Int)) (d : Nat) (cuts ks : List (List Int)) : Nat := (ks.map fun k => 1 + if stayP n t cuts k = true then triL n t keys d (cuts ++ [k]) else 0).sum
section
variable {n : Nat} {t keys : List (List Int)}
theorem desL_succ (d : Nat) (cuts : List (List Int)) : desL n t keys (d + 1) cuts = desK n t keys d cuts keys := rfl
theorem triL_succ (d : Nat) (cuts : List (List Int)) : triL n t keys (d + 1) cuts = triK n t keys d cuts keys := rfl
theorem desK_cons (d : Nat) (cuts : List (List Int)) (k : List Int) (ks : List (List Int)) : desK n t keys d cuts (k :: ks) = (if stayP n t cuts k = true then desL n t keys d (cuts ++ [k]) else []) ++ desK n t keys d cuts ks := by
 unfold desK; rw [List.flatMap_cons]
theorem triK_cons (d : Nat) (cuts : List (List Int)) (k : List Int) (ks : List (List Int)) : triK n t keys d cuts (k :: ks) = 1 + (if stayP n t cuts k = true then triL n t keys d (cuts ++ [k]) else 0) + triK n t keys d cuts ks := by
 unfold triK; rw [List.map_cons, List.sum_cons]
theorem desK_app (d : Nat) (cuts a b : List (List Int)) : desK n t keys d cuts (a ++ b) = desK n t keys d cuts a ++ desK n t keys d cuts b := by
 unfold desK; rw [List.flatMap_append]
theorem triK_app (d : Nat) (cuts a b : List (List Int)) : triK n t keys d cuts (a ++ b) = triK n t keys d cuts a + triK n t keys d cuts b := by
 unfold triK; rw [List.map_append, List.sum_append]
/-! ### Counting -/
theorem runK_cnt {limit d : Nat} {cuts : List (List Int)}
  (ih : ∀ (cuts : List (List Int)) (q c : Nat), q ≤ limit → (q + triL n t keys d cuts ≤ limit → goF limit (stayP n t) visC keys d cuts (q, false, c) = ((q + triL n t keys d cuts, false, c + (desL n t keys d cuts).length), true)) ∧
   (limit < q + triL n t keys d cuts → (goF limit (stayP n t) visC keys d cuts (q, false, c)).1.2.1 = true ∧ (goF limit (stayP n t) visC keys d cuts (q, false, c)).2 = false)) :
  ∀ (ks : List (List Int)) (q c : Nat), q ≤ limit → (q + triK n t keys d cuts ks ≤ limit → runL (goStep limit (stayP n t) (goF limit (stayP n t) visC keys d) cuts) (q, false, c) ks = ((q + triK n t keys d cuts ks, false, c + (desK n t keys d cuts ks).length), true)) ∧
    (limit < q + triK n t keys d cuts ks → (runL (goStep limit (stayP n t) (goF limit (stayP n t) visC keys d) cuts) (q, false, c) ks).1.2.1 = true ∧ (runL (goStep limit (stayP n t) (goF limit (stayP n t) visC keys d) cuts) (q, false, c) ks).2 = false)
 | [], q, c, hq => ⟨fun _ => rfl, fun h => by unfold triK at h; simp only [List.map_nil, List.sum_nil] at h; omega⟩
 | k :: ks, q, c, hq => by
   rw [triK_cons, desK_cons, List.length_append]
   obtain ⟨T, hT⟩ : ∃ T, triK n t keys d cuts ks = T := ⟨_, rfl⟩
   rw [hT]
   unfold runL
   by_cases hl : q = limit
   ·have hst : goStep limit (stayP n t) (goF limit (stayP n t) visC keys d) cuts (q, false, c) k = ((q, true, c), false) := by unfold goStep; rw [if_pos (show (q, false, c).1 = limit from hl)]
    rw [hst]
    exact ⟨fun h => by omega, fun _ => ⟨rfl, rfl⟩⟩
   ·have hst0 : goStep limit (stayP n t) (goF limit (stayP n t) visC keys d) cuts (q, false, c) k = if stayP n t cuts k = true then goF limit (stayP n t) visC keys d (cuts ++ [k]) (q + 1, false, c) else ((q + 1, false, c), true) := by unfold goStep; rw [if_neg (show ¬ (q, false, c).1 = limit from hl)]
    rw [hst0]
    by_cases hs : stayP n t cuts k = true
    ·simp only [if_pos hs]
     obtain ⟨i1, i2⟩ := ih (cuts ++ [k]) (q + 1) c (by omega)
     obtain ⟨X, hX⟩ : ∃ X, triL n t keys d (cuts ++ [k]) = X := ⟨_, rfl⟩
     rw [hX] at i1 i2 ⊢
     by_cases hx : q + 1 + X ≤ limit
     ·have e := i1 hx
      simp only [e, if_true]
      obtain ⟨j1, j2⟩ := runK_cnt ih ks (q + 1 + X) (c + (desL n t keys d (cuts ++ [k])).length) hx
      rw [hT] at j1 j2
      refine ⟨fun h => ?_, fun h => j2 (by omega)⟩
      rw [j1 (by omega), show q + (1 + X + T) = q + 1 + X + T from by omega, ← Nat.add_assoc]
     ·obtain ⟨e1, e2⟩ := i2 (by omega)
      rw [e2]
      refine ⟨fun h => by omega, fun _ => ?_⟩
      simp only [Bool.false_eq_true, if_false]
      exact ⟨e1, trivial⟩
    ·simp only [if_neg hs, if_true]
     obtain ⟨j1, j2⟩ := runK_cnt ih ks (q + 1) c (by omega)
     rw [hT] at j1 j2
     refine ⟨fun h => ?_, fun h => j2 (by omega)⟩
     rw [j1 (by omega), show q + (1 + 0 + T) = q + 1 + T from by omega]
     simp
theorem goL_cnt {limit : Nat} : ∀ (d : Nat) (cuts : List (List Int)) (q c : Nat), q ≤ limit → (q + triL n t keys d cuts ≤ limit → goF limit (stayP n t) visC keys d cuts (q, false, c) = ((q + triL n t keys d cuts, false, c + (desL n t keys d cuts).length), true)) ∧
   (limit < q + triL n t keys d cuts → (goF limit (stayP n t) visC keys d cuts (q, false, c)).1.2.1 = true ∧ (goF limit (stayP n t) visC keys d cuts (q, false, c)).2 = false)
 | 0, cuts, q, c, hq => ⟨fun _ => rfl, fun h => by unfold triL at h; omega⟩
 | d + 1, cuts, q, c, hq => runK_cnt (goL_cnt d) keys q c hq
/-! ### The first one -/
theorem runK_first {limit d : Nat} {cuts : List (List Int)}
  (ih : ∀ (cuts : List (List Int)) (q : Nat), q + triL n t keys d cuts ≤ limit → (desL n t keys d cuts = [] → goF limit (stayP n t) (visK 1) keys d cuts (q, false, []) = ((q + triL n t keys d cuts, false, []), true)) ∧
   (∀ x xs, desL n t keys d cuts = x :: xs → ∃ q', goF limit (stayP n t) (visK 1) keys d cuts (q, false, []) = ((q', false, [x]), false))) :
  ∀ (ks : List (List Int)) (q : Nat), q + triK n t keys d cuts ks ≤ limit → (desK n t keys d cuts ks = [] → runL (goStep limit (stayP n t) (goF limit (stayP n t) (visK 1) keys d) cuts) (q, false, []) ks = ((q + triK n t keys d cuts ks, false, []), true)) ∧
    (∀ x xs, desK n t keys d cuts ks = x :: xs → ∃ q', runL (goStep limit (stayP n t) (goF limit (stayP n t) (visK 1) keys d) cuts) (q, false, []) ks = ((q', false, [x]), false))
 | [], q, hq => ⟨fun _ => rfl, fun x xs h => (by cases h)⟩
 | k :: ks, q, hq => by
   rw [triK_cons] at hq ⊢
   rw [desK_cons]
   obtain ⟨T, hT⟩ : ∃ T, triK n t keys d cuts ks = T := ⟨_, rfl⟩
   rw [hT] at hq ⊢
   have hst0 : goStep limit (stayP n t) (goF limit (stayP n t) (visK 1) keys d) cuts (q, false, []) k = if stayP n t cuts k = true then goF limit (stayP n t) (visK 1) keys d (cuts ++ [k]) (q + 1, false, []) else ((q + 1, false, []), true) := by
    unfold goStep; rw [if_neg (show ¬ (q, false, ([] : List (List (List Int)))).1 = limit by show ¬ q = limit; omega)]
   unfold runL
   rw [hst0]
   by_cases hs : stayP n t cuts k = true
   ·simp only [if_pos hs] at hq ⊢
    obtain ⟨i1, i2⟩ := ih (cuts ++ [k]) (q + 1) (by omega)
    obtain ⟨X, hX⟩ : ∃ X, triL n t keys d (cuts ++ [k]) = X := ⟨_, rfl⟩
    rw [hX] at i1 hq ⊢
    cases hD : desL n t keys d (cuts ++ [k]) with
    | nil =>
      have e := i1 hD
      simp only [e, if_true, List.nil_append]
      obtain ⟨j1, j2⟩ := runK_first ih ks (q + 1 + X) (by rw [hT]; omega)
      rw [hT] at j1
      refine ⟨fun h => ?_, j2⟩
      rw [j1 h, show q + (1 + X + T) = q + 1 + X + T from by omega]
    | cons y ys =>
      obtain ⟨q', e⟩ := i2 y ys hD
      simp only [e, Bool.false_eq_true, if_false]
      refine ⟨fun h => (by cases h), fun x xs h => ?_⟩
      injection h with h1 _
      subst h1
      exact ⟨q', rfl⟩
   ·simp only [if_neg hs, if_true, List.nil_append] at hq ⊢
    obtain ⟨j1, j2⟩ := runK_first ih ks (q + 1) (by rw [hT]; omega)
    rw [hT] at j1
    refine ⟨fun h => ?_, j2⟩
    rw [j1 h, show q + (1 + 0 + T) = q + 1 + T from by omega]
theorem goL_first {limit : Nat} : ∀ (d : Nat) (cuts : List (List Int)) (q : Nat), q + triL n t keys d cuts ≤ limit → (desL n t keys d cuts = [] → goF limit (stayP n t) (visK 1) keys d cuts (q, false, []) = ((q + triL n t keys d cuts, false, []), true)) ∧
   (∀ x xs, desL n t keys d cuts = x :: xs → ∃ q', goF limit (stayP n t) (visK 1) keys d cuts (q, false, []) = ((q', false, [x]), false))
 | 0, cuts, q, hq => ⟨fun h => (by cases h), fun x xs h => by
   unfold desL at h
   injection h with h1 _
   subst h1
   exact ⟨q, rfl⟩⟩
 | d + 1, cuts, q, hq => runK_first (goL_first d) keys q hq
/-! ### What is in the list -/
theorem mem_desL : ∀ (d : Nat) (cuts x : List (List Int)), x ∈ desL n t keys d cuts → cuts <+: x ∧ x.length = cuts.length + d
 | 0, cuts, x, h => by
   unfold desL at h
   rw [List.mem_singleton] at h
   subst h
   exact ⟨List.prefix_refl _, rfl⟩
 | d + 1, cuts, x, h => by
   rw [desL_succ] at h
   unfold desK at h
   obtain ⟨k, hk, hx⟩ := List.mem_flatMap.1 h
   split at hx
   ·obtain ⟨h1, h2⟩ := mem_desL d (cuts ++ [k]) x hx
    exact ⟨(List.prefix_append _ _).trans h1, by rw [h2, List.length_append]; simp only [List.length_cons, List.length_nil]; omega⟩
   ·cases hx
theorem mem_desL_step {d : Nat} {cuts x : List (List Int)} (h : x ∈ desL n t keys (d + 1) cuts) : getl x cuts.length ∈ keys ∧ stayP n t cuts (getl x cuts.length) = true ∧ x ∈ desL n t keys d (cuts ++ [getl x cuts.length]) := by
 rw [desL_succ] at h
 unfold desK at h
 obtain ⟨k, hk, hx⟩ := List.mem_flatMap.1 h
 split at hx
 ·rename_i hs
  obtain ⟨h1, h2⟩ := mem_desL d (cuts ++ [k]) x hx
  have e : getl x cuts.length = k := by
   obtain ⟨u, hu⟩ := h1
   rw [← hu]
   unfold getl
   rw [List.getD_eq_getElem?_getD, List.getElem?_append_left (by rw [List.length_append]; simp only [List.length_cons, List.length_nil]; omega)]
   simp
  rw [e]
  exact ⟨hk, hs, hx⟩
 ·cases hx
theorem desL_nodup (hk : keys.Nodup) : ∀ (d : Nat) (cuts : List (List Int)), (desL n t keys d cuts).Nodup
 | 0, cuts => by unfold desL; simp
 | d + 1, cuts => by
   rw [desL_succ]
   have go : ∀ ks : List (List Int), ks.Nodup → (desK n t keys d cuts ks).Nodup ∧ ∀ x ∈ desK n t keys d cuts ks, getl x cuts.length ∈ ks := by
    intro ks
    induction ks with
    | nil => intro _; exact ⟨List.nodup_nil, fun x hx => by cases hx⟩
    | cons k ks ih =>
      intro hn
      rw [List.nodup_cons] at hn
      obtain ⟨i1, i2⟩ := ih hn.2
      rw [desK_cons]
      have hA : ∀ x ∈ (if stayP n t cuts k = true then desL n t keys d (cuts ++ [k]) else []), getl x cuts.length = k := by
       intro x hx
       split at hx
       ·obtain ⟨⟨u, hu⟩, _⟩ := mem_desL d (cuts ++ [k]) x hx
        rw [← hu]
        unfold getl
        rw [List.getD_eq_getElem?_getD, List.getElem?_append_left (by rw [List.length_append]; simp only [List.length_cons, List.length_nil]; omega)]
        simp
       ·cases hx
      refine ⟨List.nodup_append.2 ⟨?_, i1, ?_⟩, ?_⟩
      ·split
       ·exact desL_nodup hk d _
       ·exact List.nodup_nil
      ·intro a ha b hb e
       subst e
       have h1 := hA a ha
       have h2 := i2 a hb
       rw [h1] at h2
       exact hn.1 h2
      ·intro x hx
       rcases List.mem_append.1 hx with hx | hx
       ·rw [hA x hx]; exact List.mem_cons_self ..
       ·exact List.mem_cons_of_mem _ (i2 x hx)
   exact (go keys hk).1
end
/-! ### Behind a design -/
/-- The designs behind x in rows below r, from the last row back. -/
def aftL (m : Mk) (n : Nat) (t x : List (List Int)) : Nat → List (List (List Int))
 | 0 => []
 | r + 1 => desK n t (keysOf m) (t.length - r - 1) (x.take r) (behind m (getl x r)) ++ aftL m n t x r
def triA (m : Mk) (n : Nat) (t x : List (List Int)) : Nat → Nat
 | 0 => 0
 | r + 1 => triK n t (keysOf m) (t.length - r - 1) (x.take r) (behind m (getl x r)) + triA m n t x r
theorem next_runs {m : Mk} {n limit : Nat} {t x : List (List Int)} : ∀ (r q : Nat), q + triA m n t x r ≤ limit → (aftL m n t x r = [] → nextF m n t x limit r (q, false, []) = (q + triA m n t x r, false, [])) ∧
   (∀ y ys, aftL m n t x r = y :: ys → ∃ q', nextF m n t x limit r (q, false, []) = (q', false, [y]))
 | 0, q, _ => ⟨fun _ => rfl, fun y ys h => (by cases h)⟩
 | r + 1, q, hq => by
   have hq' : q + (triK n t (keysOf m) (t.length - r - 1) (x.take r) (behind m (getl x r)) + triA m n t x r) ≤ limit := hq
   obtain ⟨i1, i2⟩ := runK_first (limit := limit) (cuts := x.take r) (goL_first (n := n) (t := t) (keys := keysOf m) (limit := limit) (t.length - r - 1)) (behind m (getl x r)) q (by omega)
   show (desK n t (keysOf m) (t.length - r - 1) (x.take r) (behind m (getl x r)) ++ aftL m n t x r = [] → _) ∧ (∀ y ys, desK n t (keysOf m) (t.length - r - 1) (x.take r) (behind m (getl x r)) ++ aftL m n t x r = y :: ys → _)
   unfold nextF backF
   cases hD : desK n t (keysOf m) (t.length - r - 1) (x.take r) (behind m (getl x r)) with
   | nil =>
     rw [i1 hD, if_pos rfl, List.nil_append]
     obtain ⟨j1, j2⟩ := next_runs (m := m) (n := n) (limit := limit) (t := t) (x := x) r (q + triK n t (keysOf m) (t.length - r - 1) (x.take r) (behind m (getl x r))) (by omega)
     refine ⟨fun h => ?_, j2⟩
     rw [j1 h]
     show _ = (q + (triK n t (keysOf m) (t.length - r - 1) (x.take r) (behind m (getl x r)) + triA m n t x r), false, [])
     rw [Nat.add_assoc]
   | cons y ys =>
     obtain ⟨q', e⟩ := i2 y ys hD
     simp only [e, Bool.false_eq_true, if_false]
     refine ⟨fun h => (by cases h), fun z zs h => ?_⟩
     injection h with h1 _
     subst h1
     exact ⟨q', rfl⟩
theorem after_split {m : Mk} {n : Nat} {t x : List (List Int)} (hc : 0 ≤ m.c) (hxl : x.length = t.length) : ∀ (e r : Nat), r + e = t.length → x ∈ desL n t (keysOf m) e (x.take r) →
  (∃ l1, desL n t (keysOf m) e (x.take r) ++ aftL m n t x r = l1 ++ x :: aftL m n t x t.length) ∧ triA m n t x t.length ≤ triL n t (keysOf m) e (x.take r) + triA m n t x r
 | 0, r, hr, hx => by
   have hr' : r = t.length := by omega
   subst hr'
   refine ⟨⟨[], ?_⟩, by omega⟩
   unfold desL
   rw [List.take_of_length_le (by omega)]
   rfl
 | e + 1, r, hr, hx => by
   obtain ⟨h1, h2, h3⟩ := mem_desL_step hx
   have hrl : (x.take r).length = r := by rw [List.length_take]; omega
   rw [hrl] at h1 h2 h3
   have htk : x.take r ++ [getl x r] = x.take (r + 1) := (take_getl (by omega)).symm
   rw [htk] at h3
   obtain ⟨⟨l1, hl1⟩, ht⟩ := after_split hc hxl e (r + 1) (by omega) h3
   obtain ⟨K1, K2, hK⟩ := List.append_of_mem h1
   have hb := keys_behind hc hK
   have hA : aftL m n t x (r + 1) = desK n t (keysOf m) e (x.take r) K2 ++ aftL m n t x r := by
    show desK n t (keysOf m) (t.length - r - 1) (x.take r) (behind m (getl x r)) ++ aftL m n t x r = _
    rw [hb, show t.length - r - 1 = e from by omega]
   have hT : triA m n t x (r + 1) = triK n t (keysOf m) e (x.take r) K2 + triA m n t x r := by
    show triK n t (keysOf m) (t.length - r - 1) (x.take r) (behind m (getl x r)) + triA m n t x r = _
    rw [hb, show t.length - r - 1 = e from by omega]
   have hds : ∀ KK, desK n t (keysOf m) e (x.take r) (K1 ++ getl x r :: KK) = desK n t (keysOf m) e (x.take r) K1 ++ (desL n t (keysOf m) e (x.take (r + 1)) ++ desK n t (keysOf m) e (x.take r) KK) := fun KK => by
    rw [desK_app, desK_cons, if_pos h2, htk]
   have hts : ∀ KK, triK n t (keysOf m) e (x.take r) (K1 ++ getl x r :: KK) = triK n t (keysOf m) e (x.take r) K1 + (1 + triL n t (keysOf m) e (x.take (r + 1)) + triK n t (keysOf m) e (x.take r) KK) := fun KK => by
    rw [triK_app, triK_cons, if_pos h2, htk]
   refine ⟨⟨desK n t (keysOf m) e (x.take r) K1 ++ l1, ?_⟩, ?_⟩
   ·have h4 : desL n t (keysOf m) (e + 1) (x.take r) = desK n t (keysOf m) e (x.take r) K1 ++ (desL n t (keysOf m) e (x.take (r + 1)) ++ desK n t (keysOf m) e (x.take r) K2) := by
     rw [desL_succ, ← hds K2, ← hK]
    rw [h4, List.append_assoc, List.append_assoc, List.append_assoc, ← hl1, hA]
   ·have h5 : triL n t (keysOf m) (e + 1) (x.take r) = triK n t (keysOf m) e (x.take r) K1 + (1 + triL n t (keysOf m) e (x.take (r + 1)) + triK n t (keysOf m) e (x.take r) K2) := by
     rw [triL_succ, ← hts K2, ← hK]
    omega
/-! ### The law -/
/-- All designs of a system. -/
def allD (m : Mk) (t : List (List Int)) : List (List (List Int)) := desL m.c.toNat t (keysOf m) t.length []
theorem cnt_all {m : Mk} {t : List (List Int)} {limit c : Int} (h : cntAns m t limit = (c, 0)) : searchC m t [] limit = 0 ∧ triL m.c.toNat t (keysOf m) t.length [] ≤ limit.toNat ∧ c = ((allD m t).length : Int) := by
 unfold cntAns at h
 split at h
 ·rename_i h0; exact absurd (congrArg Prod.snd h) h0
 ·rename_i h0
  have h0' := Decidable.not_not.1 h0
  split at h
  ·cases h
  ·rename_i h1
   obtain ⟨i1, i2⟩ := goL_cnt (n := m.c.toNat) (t := t) (keys := keysOf m) (limit := limit.toNat) t.length [] 0 0 (Nat.zero_le _)
   have hle : triL m.c.toNat t (keysOf m) t.length [] ≤ limit.toNat := by
    refine Nat.le_of_not_lt fun hlt => h1 ?_
    exact (i2 (by omega)).1
   have e := i1 (by omega)
   refine ⟨h0', hle, ?_⟩
   have e2 : (cntF m t limit.toNat).2.2 = (allD m t).length := by unfold cntF; rw [e]; unfold allD; simp
   rw [← e2]
   exact (congrArg Prod.fst h).symm
theorem first_all {m : Mk} {t : List (List Int)} {limit : Int} (h0 : searchC m t [] limit = 0) (hT : triL m.c.toNat t (keysOf m) t.length [] ≤ limit.toNat) :
  (allD m t = [] → (findAns m t [] limit).2.2 = 4) ∧ ∀ x xs, allD m t = x :: xs → ∃ k, findAns m t [] limit = (x, k, 0) := by
 obtain ⟨i1, i2⟩ := goL_first (n := m.c.toNat) (t := t) (keys := keysOf m) (limit := limit.toNat) t.length [] 0 (by omega)
 have hf : findAns m t [] limit = pickA (goF limit.toNat (stayP m.c.toNat t) (visK 1) (keysOf m) t.length [] (0, false, [])).1 := by
  unfold findAns firstF
  rw [if_neg (by rw [h0]; simp), if_pos (by omega)]
  rfl
 rw [hf]
 refine ⟨fun h => ?_, fun x xs h => ?_⟩
 ·rw [i1 h]; rfl
 ·obtain ⟨q', e⟩ := i2 x xs h
  rw [e]
  exact ⟨_, rfl⟩
theorem all_design {m : Mk} {t x : List (List Int)} (hs : isSys m t = true) (hx : x ∈ allD m t) : designB m t x = true ∧ PartOk m t x ∧ x.length = t.length ∧ falseL m.c.toNat t x = [] := by
 have hc : 0 ≤ m.c := by have := Mk.ok_iff.1 (PartOk.nil hs).fits.ok; omega
 have go : ∀ (d : Nat) (cuts x : List (List Int)), cuts.length + d = t.length → x ∈ desL m.c.toNat t (keysOf m) d cuts → PartOk m t cuts → falseL m.c.toNat t cuts = [] → PartOk m t x ∧ falseL m.c.toNat t x = [] := by
  intro d
  induction d with
  | zero =>
    intro cuts x _ hx hp hf
    unfold desL at hx
    rw [List.mem_singleton] at hx
    subst hx
    exact ⟨hp, hf⟩
  | succ d ih =>
    intro cuts x hl hx hp hf
    obtain ⟨h1, h2, h3⟩ := mem_desL_step hx
    exact ih _ x (by rw [List.length_append]; simp only [List.length_cons, List.length_nil]; omega) h3 (hp.more (by omega) ((mem_keysOf hc).1 h1)) (stay_nil h2)
 obtain ⟨hp, hf⟩ := go t.length [] x (by simp) hx (PartOk.nil hs) (by
  refine List.eq_nil_iff_forall_not_mem.2 fun y hy => ?_
  obtain ⟨i, d, hi, _⟩ := mem_falseRows.1 hy
  simp at hi)
 have hl := (mem_desL t.length [] x hx).2
 simp only [List.length_nil, Nat.zero_add] at hl
 exact ⟨designB_ok.2 ⟨cutC_ok.2 ⟨hp.sys, hl, hp.keys⟩, by rw [hf]; rfl⟩, hp, hl, hf⟩
theorem next_all {m : Mk} {t x : List (List Int)} {limit : Int} {l1 l2 : List (List (List Int))} (h0 : searchC m t [] limit = 0) (hT : triL m.c.toNat t (keysOf m) t.length [] ≤ limit.toNat) (hD : allD m t = l1 ++ x :: l2) :
  (l2 = [] → (nextDAns m t x limit).2 = 4) ∧ ∀ y ys, l2 = y :: ys → nextDAns m t x limit = (y, 0) := by
 obtain ⟨hok, hlim, _⟩ := searchC_ok.1 h0
 have hc : 0 ≤ m.c := by have := Mk.ok_iff.1 hok.fits.ok; omega
 have hx : x ∈ allD m t := by rw [hD]; simp
 obtain ⟨_, hp, hxl, hf⟩ := all_design hok.sys hx
 obtain ⟨⟨k1, hk1⟩, ht⟩ := after_split (m := m) (n := m.c.toNat) (t := t) (x := x) hc hxl t.length 0 (by omega) hx
 have hk1 : allD m t = k1 ++ x :: aftL m m.c.toNat t x t.length := by
  have h1 : allD m t ++ [] = k1 ++ x :: aftL m m.c.toNat t x t.length := hk1
  rw [List.append_nil] at h1
  exact h1
 have hnd : (allD m t).Nodup := desL_nodup (keysOf_nodup m) _ _
 have hl2 : l2 = aftL m m.c.toNat t x t.length := by
  have hnd1 := hnd
  rw [hD] at hnd1
  have hn1 : x ∉ l1 := fun h => (List.nodup_append.1 hnd1).2.2 x h x (List.mem_cons_self ..) rfl
  rw [hk1] at hnd
  have hn2 : x ∉ k1 := fun h => (List.nodup_append.1 hnd).2.2 x h x (List.mem_cons_self ..) rfl
  rw [hD] at hk1
  exact split_same l1 k1 hn1 hn2 hk1
 have hsc : searchC m t x limit = 0 := searchC_ok.2 ⟨hp, hlim, hf⟩
 have ht2 : triA m m.c.toNat t x t.length ≤ limit.toNat := by
  have h1 : triA m m.c.toNat t x t.length ≤ triL m.c.toNat t (keysOf m) t.length [] + 0 := ht
  omega
 obtain ⟨j1, j2⟩ := next_runs (m := m) (n := m.c.toNat) (limit := limit.toNat) (t := t) (x := x) t.length 0 (by omega)
 have hn : nextDAns m t x limit = ((pickA (nextF m m.c.toNat t x limit.toNat t.length (0, false, []))).1, (pickA (nextF m m.c.toNat t x limit.toNat t.length (0, false, []))).2.2) := by
  unfold nextDAns
  rw [if_neg (by rw [hsc]; simp), if_neg (by omega), hxl]
 rw [hn]
 refine ⟨fun h => ?_, fun y ys h => ?_⟩
 ·rw [h] at hl2
  rw [j1 hl2.symm]; rfl
 ·rw [h] at hl2
  obtain ⟨q', e⟩ := j2 y ys hl2.symm
  rw [e]; rfl
where
 split_same {α : Type} {x : α} {b d : List α} : ∀ (a c : List α), x ∉ a → x ∉ c → a ++ x :: b = c ++ x :: d → b = d
  | [], [], _, _, h => by injection h
  | [], y :: c, _, hc, h => by
    injection h with h1 _
    exact absurd (by rw [h1]; exact List.mem_cons_self ..) hc
  | y :: a, [], ha, _, h => by
    injection h with h1 _
    exact absurd (by rw [← h1]; exact List.mem_cons_self ..) ha
  | y :: a, z :: c, ha, hc, h => by
    injection h with _ h2
    exact split_same a c (fun h => ha (List.mem_cons_of_mem _ h)) (fun h => hc (List.mem_cons_of_mem _ h)) h2
set_option maxRecDepth 100000 in
set_option maxHeartbeats 1000000 in
theorem FindDesign_any {S : Nat → Prop} (m : Mk) (u : Value) (t : List (List Int)) (limit : Int) (W : World) (h : V2 S W u t) :
  Calls Tryz.prog 54 #[.agg #[.int .i64 m.c, .int .i64 m.d, .int .i64 m.s, .int .i64 m.e, .int .i64 m.l, u], .int .i64 limit] W fun e' w' => ∃ v', e' = .returned (.tuple #[v', .int .i64 (findAns m t [] limit).2.1, .int .i64 (findAns m t [] limit).2.2]) ∧ F2 W.heap.size w' v' (findAns m t [] limit).1 ∧ Below W.heap.size W w' := by
 obtain ⟨a, c, rfl, hmx⟩ := h.form
 obtain ⟨W1, hW1, hB01, hz01, HZ01, hc01, hh01⟩ := box_facts W #[.int .i64 m.c, .int .i64 m.d, .int .i64 m.s, .int .i64 m.e, .int .i64 m.l, .slice a t.length c] 28
 have hV1 : V2 (fun _ => True) W1 (.slice a t.length c) t := (h.below hB01).any
 have hfd := FindFrom_any m (.slice a t.length c) (.slice none 0 0) t [] limit W1 hV1 (S' := fun _ => True) ⟨none, 0, rfl, Nat.le_refl _, Nat.zero_le _, fun k hk => by simp at hk⟩ (fun _ => .inl rfl)
 obtain ⟨A, hA⟩ : ∃ A, findAns m t [] limit = A := ⟨_, rfl⟩
 rw [hA] at hfd ⊢
 have H := Lib.hid (And.intro hfd hB01); clear hfd hA hV1
 go_enter Tryz.func54, Tryz.ntmps54
 go_wp2_with fail
 rw [← hW1]
 refine H.out.1.mono ?_
 rintro e' w2 ⟨v', rfl, hF, hb⟩
 obtain ⟨ra, rc, rfl, _⟩ := hF.v2.form
 have HF := Lib.hid (And.intro (hF.mono (show W.heap.size ≤ W1.heap.size by omega)) (H.out.2.trans (hb.mono (by omega)))); clear hF hb
 go_wp2_with fail
 go_ret3
 exact ⟨_, rfl, HF.out.1, HF.out.2⟩
/-- What is counted, and where. -/
def CtInv (CB : Nat) (c : Int) (F : Nat → Prop) (w : World) : Prop := (∀ b, F b ↔ b = CB) ∧ w.heap[CB]? = some (.cells #[.int .i64 c] 2 (0, 0))
theorem enters_ct : Enters 242 := fun args w => by kernel_rfl
set_option maxRecDepth 100000 in
theorem ct1_any (v : Value) (CB : Nat) (c : Int) (w : World) (hl : w.heap[CB]? = some (.cells #[.int .i64 c] 2 (0, 0))) :
  Calls Tryz.prog 242 #[v, .pointer (some ⟨CB, 0, none⟩)] w fun e w' => e = .returned (.bool true) ∧ w'.heap[CB]? = some (.cells #[.int .i64 (wrap64 (c + 1))] 2 (0, 0)) ∧ Chg (fun b => b = CB) w w' := by
 have hcl := cell_of_block hl 0
 simp at hcl
 have hfl := frozen_of_block hl 0
 have hs := heap_setCell_self (off := 0) hl (.int .i64 (wrap64 (c + 1)))
 have hch := (Chg.refl (fun b => b = CB) w).setCell (p := ⟨CB, 0, none⟩) (.inl rfl) (.int .i64 (wrap64 (c + 1)))
 obtain ⟨wz, hwz⟩ : ∃ wz, wz = w.setCell ⟨CB, 0, none⟩ (.int .i64 (wrap64 (c + 1))) := ⟨_, rfl⟩
 rw [← hwz] at hs hch
 have H := Lib.hid (And.intro hs (And.intro hch hwz)); clear hs hch hwz hl
 go_enter Tryz.func242, Tryz.ntmps242
 go_wp2_with fail
 rw [← H.out.2.2]
 go_ret
 exact ⟨rfl, by simpa using H.out.1, H.out.2.1⟩
theorem ct_vis (CB : Nat) {m : Mk} {t : List (List Int)} : VisG (fun _ : Int => True) (fun _ => True) 242 #[.pointer (some ⟨CB, 0, none⟩)] visW (CtInv CB) := by
 refine ⟨enters_ct, ?_, ?_, fun _ _ _ _ => trivial, ?_⟩
 ·rintro s F w w' ⟨h1, h2⟩ hz hk
  exact ⟨h1, by rw [hk CB ((h1 CB).2 rfl)]; exact h2⟩
 ·rintro s F w ⟨h1, h2⟩ b hb
  rw [(h1 b).1 hb]
  exact lt_of_heap h2
 ·rintro s F S w v design ⟨h1, h2⟩ hV hS _ _
  refine (ct1_any v CB s w h2).mono ?_
  rintro e w' ⟨rfl, g1, g2⟩
  exact ⟨F, rfl, ⟨h1, g1⟩, g2.mono (fun b hb => (h1 b).2 hb), fun b hb => .inl hb⟩
set_option maxRecDepth 100000 in
set_option maxHeartbeats 1000000 in
theorem searchAll_any {S : Nat → Prop} (m : Mk) (u : Value) (t : List (List Int)) (limit : Nat) (W : World) (h : V2 S W u t) (hs : isSys m t = true) (hlim : limit ≤ 4000) :
  Calls Tryz.prog 160 #[.agg #[.int .i64 m.c, .int .i64 m.d, .int .i64 m.s, .int .i64 m.e, .int .i64 m.l, u], .int .i64 (limit : Int)] W fun e w' => ∃ XB fv, e = .returned (.tuple #[.int .i64 ((cntF m t limit).2.2 : Int), .pointer (some ⟨XB, 0, none⟩)]) ∧
   w'.heap[XB]? = some (.cells (goCells m u limit (cntF m t limit).1 (cntF m t limit).2.1 fv) 103 (0, 0)) ∧ Below W.heap.size W w' := by
 obtain ⟨a, c, rfl, hmx⟩ := h.form
 have hok := PartOk.nil hs
 have hmk := Mk.ok_iff.1 hok.fits.ok
 have hrow := hok.fits.rows
 obtain ⟨hcw, hc4⟩ := cntF_wrap (m := m) (t := t) (limit := limit) hrow.1 hlim
 obtain ⟨WA, hWA⟩ : ∃ WA, WA = ((W.alloc (.cells #[.int .i64 m.c, .int .i64 m.d, .int .i64 m.s, .int .i64 m.e, .int .i64 m.l, .slice a t.length c] 28)).alloc (.cells #[.int .i64 0] 2)).alloc (.cells #[.int .i64 m.c, .int .i64 m.d, .int .i64 m.s, .int .i64 m.e, .int .i64 m.l, .slice a t.length c, .int .i64 (limit : Int), .int .i64 0, .bool false, .func (.func 242) #[] #[.pointer (some ⟨W.heap.size + 1, 0, none⟩)]] 103) := ⟨_, rfl⟩
 have hbA : Below W.heap.size W WA := by rw [hWA]; exact by (repeat (first | (with_reducible refine Below.setCell ?_ ?_ _) | (with_reducible refine Below.alloc ?_ ?_ _) | (with_reducible refine Below.drew ?_) | (with_reducible refine below_drewN ?_ _) | (with_reducible exact Below.refl _ _) | (with_reducible assumption) | (with_reducible refine Below.trans ?_ (Below.mono (by with_reducible assumption) ?_)) | go_size))
 have hzA : WA.heap.size = W.heap.size + 3 := by rw [hWA]; simp
 have hA1 : WA.heap[W.heap.size + 1]? = some (.cells #[.int .i64 0] 2 (0, 0)) := by rw [hWA]; simp only [heap_alloc_at, World.size_alloc]; (repeat rw [if_neg (by omega)]); simp
 have hA4 : WA.heap[W.heap.size + 1 + 1]? = some (.cells (goCells m (.slice a t.length c) limit 0 false (.func (.func 242) #[] #[.pointer (some ⟨W.heap.size + 1, 0, none⟩)])) 103 (0, 0)) := by rw [hWA]; simp only [heap_alloc_at, World.size_alloc]; simp [goCells]
 have hGs : Gs m (.slice a t.length c) limit (.func (.func 242) #[] #[.pointer (some ⟨W.heap.size + 1, 0, none⟩)]) (W.heap.size + 1 + 1) (CtInv (W.heap.size + 1)) (0, false, 0) (fun b => b = W.heap.size + 1) WA :=
  ⟨hA4, ⟨fun b => Iff.rfl, hA1⟩, fun hb => by omega, fun b hb => by omega, ⟨Nat.zero_le _, hlim⟩⟩
 have hno : ∀ b, b < W.heap.size → ¬ GF (W.heap.size + 1 + 1) (fun b => b = W.heap.size + 1) b := fun b hb h => by
  rcases h with e | e <;> omega
 have hgo := go_any (ct_vis (W.heap.size + 1) (m := m) (t := t)) m t m.c.toNat (by omega) (fun ds h1 h2 h3 => trivial) limit (.slice a t.length c) (W.heap.size + 1 + 1) t.length [] (.slice none 0 0) (0, false, 0) _ WA (by simp)
  ⟨hGs, h.old.mono (fun b h1 _ => hno b h1) (fun b _ h2 => hbA.block b h2), ⟨none, 0, rfl, Nat.le_refl _, Nat.zero_le _, fun k hk => by simp at hk⟩, fun _ => .inl rfl, hok, falseL_none, trivial⟩
 obtain ⟨r, hr⟩ : ∃ r, goF limit (stayP m.c.toNat t) visW (keysOf m) t.length [] (0, false, (0 : Int)) = r := ⟨_, rfl⟩
 rw [hr] at hgo hcw
 obtain ⟨q, hq⟩ : ∃ q, cntF m t limit = q := ⟨_, rfl⟩
 rw [hq] at hcw ⊢
 have HWA := Lib.hid (And.intro hWA (And.intro hgo (And.intro hbA hcw))); clear hWA hgo hbA hGs hno hA1 hA4 hok hr hcw hc4 hmk hrow hq
 go_enter Tryz.func160, Tryz.ntmps160
 go_wp2_with fail
 rw [← HWA.out.1]
 refine HWA.out.2.1.mono ?_
 rintro e' w' ⟨F', rfl, hG, hch, hsub⟩
 obtain ⟨f1, f2⟩ := hG.vi
 have hhh := hG.hh
 rw [HWA.out.2.2.2] at f2 hhh
 have hb' : Below W.heap.size W w' := HWA.out.2.2.1.trans (hch.to_below (B := W.heap.size) (fun b hb => by
  rcases hb with e | e <;> omega) (by omega))
 have cD := cell_of_block f2 0
 simp [mapS] at cD
 have HF := Lib.hid (And.intro hhh hb'); clear hG hch hsub f1 f2 hb' hhh
 go_wp2_with fail
 go_ret2
 exact ⟨_, _, rfl, HF.out.1, HF.out.2⟩
set_option maxRecDepth 100000 in
set_option maxHeartbeats 1000000 in
theorem CountDesigns_any {S : Nat → Prop} (m : Mk) (u : Value) (t : List (List Int)) (limit : Int) (W : World) (h : V2 S W u t) :
  Calls Tryz.prog 56 #[.agg #[.int .i64 m.c, .int .i64 m.d, .int .i64 m.s, .int .i64 m.e, .int .i64 m.l, u], .int .i64 limit] W fun e' w' => e' = .returned (.tuple #[.int .i64 (cntAns m t limit).1, .int .i64 (cntAns m t limit).2]) ∧ Below W.heap.size W w' := by
 obtain ⟨a, c, rfl, hmx⟩ := h.form
 obtain ⟨W1, hW1, hB01, hz01, HZ01, hc01, hh01⟩ := box_facts W #[.int .i64 m.c, .int .i64 m.d, .int .i64 m.s, .int .i64 m.e, .int .i64 m.l, .slice a t.length c] 28
 have hV1 : V2 (fun _ => True) W1 (.slice a t.length c) t := (h.below hB01).any
 have hsc := searchCode_any m (.slice a t.length c) (.slice none 0 0) t [] limit W1 hV1 (S' := fun _ => True) ⟨none, 0, rfl, Nat.le_refl _, Nat.zero_le _, fun k hk => by simp at hk⟩
 by_cases hp : searchC m t [] limit = 0
 ·obtain ⟨hok, hlim, hop⟩ := searchC_ok.1 hp
  rw [hp] at hsc
  obtain ⟨L, rfl⟩ : ∃ L : Nat, limit = (L : Int) := ⟨limit.toNat, by omega⟩
  have hsa := fun w (hb : Below W1.heap.size W1 w) => searchAll_any m (.slice a t.length c) t L w (hV1.below hb) hok.sys (by omega)
  have hfin : cntAns m t (L : Int) = if (cntF m t L).2.1 = true then (0, 3) else ((((cntF m t L).2.2 : Nat) : Int), 0) := by unfold cntAns; rw [if_neg (by rw [hp]; simp)]; rfl
  rw [hfin]
  clear hfin
  obtain ⟨r, hr⟩ : ∃ r, cntF m t L = r := ⟨_, rfl⟩
  simp only [hr] at hsa ⊢
  obtain ⟨r1, r2, rl⟩ := r
  have H := Lib.hid (And.intro hsc (And.intro hsa hB01)); clear hsc hsa hp hok hlim hop hr
  cases r2
  ·simp only [Bool.false_eq_true, if_false]
   go_enter Tryz.func56, Tryz.ntmps56
   go_wp2_with fail
   rw [← hW1]
   refine H.out.1.mono ?_
   rintro e' w2 ⟨rfl, hb2⟩
   have hz2 := hb2.size
   have hx2 : ∀ o, w2.cell? ⟨W.heap.size, o, none⟩ = (#[.int .i64 m.c, .int .i64 m.d, .int .i64 m.s, .int .i64 m.e, .int .i64 m.l, .slice a t.length c] : Array Value)[o]? := fun o => by rw [(bcell hb2).1 _ _ hz01, hc01]
   clear hc01 hh01
   go_wp2_with fail
   refine (H.out.2.1 _ hb2).mono ?_
   rintro e' w3 ⟨XB, fv, rfl, hX, hb3⟩
   have hbz := Lib.hid (H.out.2.2.trans ((hb2.trans (hb3.mono hz2)).mono (by omega)))
   have cX3 : w3.cell? ⟨XB, 7, none⟩ = some (.int .i64 (r1 : Int)) := by rw [cell_of_block hX]; rfl
   have cX4 : w3.cell? ⟨XB, 8, none⟩ = some (.bool false) := by rw [cell_of_block hX]; rfl
   clear hx2 hb3 hX
   go_wp2_with fail
   go_ret2
   exact ⟨rfl, hbz.out⟩
  ·simp only [if_true]
   go_enter Tryz.func56, Tryz.ntmps56
   go_wp2_with fail
   rw [← hW1]
   refine H.out.1.mono ?_
   rintro e' w2 ⟨rfl, hb2⟩
   have hz2 := hb2.size
   have hx2 : ∀ o, w2.cell? ⟨W.heap.size, o, none⟩ = (#[.int .i64 m.c, .int .i64 m.d, .int .i64 m.s, .int .i64 m.e, .int .i64 m.l, .slice a t.length c] : Array Value)[o]? := fun o => by rw [(bcell hb2).1 _ _ hz01, hc01]
   clear hc01 hh01
   go_wp2_with fail
   refine (H.out.2.1 _ hb2).mono ?_
   rintro e' w3 ⟨XB, fv, rfl, hX, hb3⟩
   have hbz := Lib.hid (H.out.2.2.trans ((hb2.trans (hb3.mono hz2)).mono (by omega)))
   have cX3 : w3.cell? ⟨XB, 7, none⟩ = some (.int .i64 (r1 : Int)) := by rw [cell_of_block hX]; rfl
   have cX4 : w3.cell? ⟨XB, 8, none⟩ = some (.bool true) := by rw [cell_of_block hX]; rfl
   clear hx2 hb3 hX
   go_wp2_with fail
   go_ret2
   exact ⟨rfl, hbz.out⟩
 ·have hfin : cntAns m t limit = (0, searchC m t [] limit) := by unfold cntAns; rw [if_pos hp]
  have e1 : (searchC m t [] limit != 0) = true := by simp [hp]
  rw [hfin]
  have H := Lib.hid (And.intro hsc (And.intro hfin hB01)); clear hsc hfin hp
  generalize searchC m t [] limit = pc at *
  go_enter Tryz.func56, Tryz.ntmps56
  go_wp2_with fail
  rw [← hW1]
  refine H.out.1.mono ?_
  rintro e' w2 ⟨rfl, hb2⟩
  have hz2 := hb2.size
  have hx2 : ∀ o, w2.cell? ⟨W.heap.size, o, none⟩ = (#[.int .i64 m.c, .int .i64 m.d, .int .i64 m.s, .int .i64 m.e, .int .i64 m.l, .slice a t.length c] : Array Value)[o]? := fun o => by rw [(bcell hb2).1 _ _ hz01, hc01]
  clear hc01 hh01
  clear hx2
  go_wp2_with fail
  go_ret2
  exact ⟨rfl, H.out.2.2.trans (hb2.mono (by omega))⟩
set_option maxRecDepth 100000 in
set_option maxHeartbeats 1000000 in
theorem CountTries_any {S : Nat → Prop} (m : Mk) (u : Value) (t : List (List Int)) (limit : Int) (W : World) (h : V2 S W u t) :
  Calls Tryz.prog 58 #[.agg #[.int .i64 m.c, .int .i64 m.d, .int .i64 m.s, .int .i64 m.e, .int .i64 m.l, u], .int .i64 limit] W fun e' w' => e' = .returned (.tuple #[.int .i64 (triesAns m t limit).1, .int .i64 (triesAns m t limit).2]) ∧ Below W.heap.size W w' := by
 obtain ⟨a, c, rfl, hmx⟩ := h.form
 obtain ⟨W1, hW1, hB01, hz01, HZ01, hc01, hh01⟩ := box_facts W #[.int .i64 m.c, .int .i64 m.d, .int .i64 m.s, .int .i64 m.e, .int .i64 m.l, .slice a t.length c] 28
 have hV1 : V2 (fun _ => True) W1 (.slice a t.length c) t := (h.below hB01).any
 have hsc := searchCode_any m (.slice a t.length c) (.slice none 0 0) t [] limit W1 hV1 (S' := fun _ => True) ⟨none, 0, rfl, Nat.le_refl _, Nat.zero_le _, fun k hk => by simp at hk⟩
 by_cases hp : searchC m t [] limit = 0
 ·obtain ⟨hok, hlim, hop⟩ := searchC_ok.1 hp
  rw [hp] at hsc
  obtain ⟨L, rfl⟩ : ∃ L : Nat, limit = (L : Int) := ⟨limit.toNat, by omega⟩
  have hsa := fun w (hb : Below W1.heap.size W1 w) => searchAll_any m (.slice a t.length c) t L w (hV1.below hb) hok.sys (by omega)
  have hfin : triesAns m t (L : Int) = if (cntF m t L).2.1 = true then (0, 3) else ((((cntF m t L).1 : Nat) : Int), 0) := by unfold triesAns; rw [if_neg (by rw [hp]; simp)]; rfl
  rw [hfin]
  clear hfin
  obtain ⟨r, hr⟩ : ∃ r, cntF m t L = r := ⟨_, rfl⟩
  simp only [hr] at hsa ⊢
  obtain ⟨r1, r2, rl⟩ := r
  have H := Lib.hid (And.intro hsc (And.intro hsa hB01)); clear hsc hsa hp hok hlim hop hr
  cases r2
  ·simp only [Bool.false_eq_true, if_false]
   go_enter Tryz.func58, Tryz.ntmps58
   go_wp2_with fail
   rw [← hW1]
   refine H.out.1.mono ?_
   rintro e' w2 ⟨rfl, hb2⟩
   have hz2 := hb2.size
   have hx2 : ∀ o, w2.cell? ⟨W.heap.size, o, none⟩ = (#[.int .i64 m.c, .int .i64 m.d, .int .i64 m.s, .int .i64 m.e, .int .i64 m.l, .slice a t.length c] : Array Value)[o]? := fun o => by rw [(bcell hb2).1 _ _ hz01, hc01]
   clear hc01 hh01
   go_wp2_with fail
   refine (H.out.2.1 _ hb2).mono ?_
   rintro e' w3 ⟨XB, fv, rfl, hX, hb3⟩
   have hbz := Lib.hid (H.out.2.2.trans ((hb2.trans (hb3.mono hz2)).mono (by omega)))
   have cX3 : w3.cell? ⟨XB, 7, none⟩ = some (.int .i64 (r1 : Int)) := by rw [cell_of_block hX]; rfl
   have cX4 : w3.cell? ⟨XB, 8, none⟩ = some (.bool false) := by rw [cell_of_block hX]; rfl
   clear hx2 hb3 hX
   go_wp2_with fail
   go_ret2
   exact ⟨rfl, hbz.out⟩
  ·simp only [if_true]
   go_enter Tryz.func58, Tryz.ntmps58
   go_wp2_with fail
   rw [← hW1]
   refine H.out.1.mono ?_
   rintro e' w2 ⟨rfl, hb2⟩
   have hz2 := hb2.size
   have hx2 : ∀ o, w2.cell? ⟨W.heap.size, o, none⟩ = (#[.int .i64 m.c, .int .i64 m.d, .int .i64 m.s, .int .i64 m.e, .int .i64 m.l, .slice a t.length c] : Array Value)[o]? := fun o => by rw [(bcell hb2).1 _ _ hz01, hc01]
   clear hc01 hh01
   go_wp2_with fail
   refine (H.out.2.1 _ hb2).mono ?_
   rintro e' w3 ⟨XB, fv, rfl, hX, hb3⟩
   have hbz := Lib.hid (H.out.2.2.trans ((hb2.trans (hb3.mono hz2)).mono (by omega)))
   have cX3 : w3.cell? ⟨XB, 7, none⟩ = some (.int .i64 (r1 : Int)) := by rw [cell_of_block hX]; rfl
   have cX4 : w3.cell? ⟨XB, 8, none⟩ = some (.bool true) := by rw [cell_of_block hX]; rfl
   clear hx2 hb3 hX
   go_wp2_with fail
   go_ret2
   exact ⟨rfl, hbz.out⟩
 ·have hfin : triesAns m t limit = (0, searchC m t [] limit) := by unfold triesAns; rw [if_pos hp]
  have e1 : (searchC m t [] limit != 0) = true := by simp [hp]
  rw [hfin]
  have H := Lib.hid (And.intro hsc (And.intro hfin hB01)); clear hsc hfin hp
  generalize searchC m t [] limit = pc at *
  go_enter Tryz.func58, Tryz.ntmps58
  go_wp2_with fail
  rw [← hW1]
  refine H.out.1.mono ?_
  rintro e' w2 ⟨rfl, hb2⟩
  have hz2 := hb2.size
  have hx2 : ∀ o, w2.cell? ⟨W.heap.size, o, none⟩ = (#[.int .i64 m.c, .int .i64 m.d, .int .i64 m.s, .int .i64 m.e, .int .i64 m.l, .slice a t.length c] : Array Value)[o]? := fun o => by rw [(bcell hb2).1 _ _ hz01, hc01]
  clear hc01 hh01
  clear hx2
  go_wp2_with fail
  go_ret2
  exact ⟨rfl, H.out.2.2.trans (hb2.mono (by omega))⟩
end Go.Proofs.YtmaefilliggjiaaGreat
