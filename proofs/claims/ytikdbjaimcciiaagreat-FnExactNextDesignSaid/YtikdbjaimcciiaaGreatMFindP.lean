/- What the searches for designs answer. No program here. No conditions. -/
import Derived.Test.YtikdbjaimcciiaaGreatMGoP
import Derived.Test.YtikdbjaimcciiaaGreatReadQ
namespace Go.Proofs.YtikdbjaimcciiaaGreat
open Go.RowKit
set_option linter.unusedVariables false
set_option linter.unusedSimpArgs false

abbrev DSt := GSt (List (List (List Int)))
/-- The code of a system, partial cuts and a limit. -/
def searchC (m : Mk) (t cuts : List (List Int)) (limit : Int) : Int :=
  if partC m t cuts ≠ 0 then partC m t cuts else if ¬ (0 ≤ limit ∧ limit ≤ 4000) then 2 else if (falseL m.c.toNat t cuts).length ≠ 0 then 5 else 0
theorem searchC_ok {m : Mk} {t cuts : List (List Int)} {limit : Int} : searchC m t cuts limit = 0 ↔ PartOk m t cuts ∧ (0 ≤ limit ∧ limit ≤ 4000) ∧ falseL m.c.toNat t cuts = [] := by
  unfold searchC
  constructor
  · intro h
    by_cases h1 : partC m t cuts ≠ 0
    · rw [if_pos h1] at h; exact absurd h h1
    · rw [if_neg h1] at h
      have h1' := partC_ok.1 (Decidable.not_not.1 h1)
      by_cases h2 : 0 ≤ limit ∧ limit ≤ 4000
      · rw [if_neg (by simpa using h2)] at h
        by_cases h3 : (falseL m.c.toNat t cuts).length ≠ 0
        · rw [if_pos h3] at h; cases h
        · exact ⟨⟨h1'.1, h1'.2.1, h1'.2.2⟩, h2, List.length_eq_zero_iff.1 (Decidable.not_not.1 h3)⟩
      · rw [if_pos h2] at h; cases h
  · rintro ⟨h1, h2, h3⟩
    rw [if_neg (by rw [h1.c]; simp), if_neg (by simpa using h2), if_neg (by rw [h3]; simp)]
def pickA (s : DSt) : List (List Int) × Int × Int :=
  match s.2.2 with
  | d :: _ => (d, (s.1 : Int), 0)
  | [] => if s.2.1 = true then ([], 0, 3) else ([], 0, 4)
def findAns (m : Mk) (t cuts : List (List Int)) (limit : Int) : List (List Int) × Int × Int :=
  if searchC m t cuts limit ≠ 0 then ([], 0, searchC m t cuts limit) else pickA (firstF m.c.toNat t (keysOf m) cuts 1 limit.toNat)
/-- A design of the search: cuts for all rows. -/
structure DesOk (m : Mk) (t ds : List (List Int)) : Prop where
  part : PartOk m t ds
  full : ds.length ≤ t.length
theorem DesOk.few {m : Mk} {t ds : List (List Int)} (h : DesOk m t ds) : ds.length ≤ 10 ∧ ∀ k, k < ds.length → (getl ds k).length ≤ 6 ∧ getl ds k ≠ [] := by
  have hf := h.part.fits
  have hr := hf.rows
  have hm := Mk.ok_iff.1 hf.ok
  refine ⟨by have := h.full; omega, fun k hk => ?_⟩
  have := hf.lens k hk
  exact ⟨by omega, fun e => by rw [e] at this; simp at this; omega⟩
theorem goF_des {limit n : Nat} {m : Mk} {t : List (List Int)} {most : Int} (hc : 0 ≤ m.c) : ∀ {d : Nat} {cuts : List (List Int)} {s : DSt}, cuts.length + d = t.length →
    DesOk m t cuts → (∀ x ∈ s.2.2, DesOk m t x) → ∀ x ∈ (goF limit (stayP n t) (visK most) (keysOf m) d cuts s).1.2.2, DesOk m t x
  | 0, cuts, s, _, hc, hs => by
    intro x hx
    simp only [goF, visK, List.mem_append, List.mem_singleton] at hx
    rcases hx with hx | rfl
    · exact hs x hx
    · exact hc
  | d + 1, cuts, s, hl, hcu, hs => by
    show ∀ x ∈ (runL (goStep limit (stayP n t) (goF limit (stayP n t) (visK most) (keysOf m) d) cuts) s (keysOf m)).1.2.2, DesOk m t x
    exact goL_des hc hl hcu (keysOf m) (fun k hk => (mem_keysOf hc).1 hk) (fun key s hk hs => goF_des hc (by simp; omega) ⟨hcu.part.more (by omega) hk, by simp; omega⟩ hs) s hs
where
  goL_des {limit n : Nat} {m : Mk} {t : List (List Int)} {most : Int} (hc : 0 ≤ m.c) {d : Nat} {cuts : List (List Int)} (hl : cuts.length + (d + 1) = t.length) (hcu : DesOk m t cuts) (l : List (List Int)) (hk : ∀ k ∈ l, isKeyB m k = true)
      (ih : ∀ key (s : DSt), isKeyB m key = true → (∀ x ∈ s.2.2, DesOk m t x) → ∀ x ∈ (goF limit (stayP n t) (visK most) (keysOf m) d (cuts ++ [key]) s).1.2.2, DesOk m t x) (s : DSt) (hs : ∀ x ∈ s.2.2, DesOk m t x) :
      ∀ x ∈ (runL (goStep limit (stayP n t) (goF limit (stayP n t) (visK most) (keysOf m) d) cuts) s l).1.2.2, DesOk m t x := by
    induction l generalizing s with
    | nil => exact hs
    | cons k l ihl =>
      have h1 : ∀ x ∈ (goStep limit (stayP n t) (goF limit (stayP n t) (visK most) (keysOf m) d) cuts s k).1.2.2, DesOk m t x := by
        unfold goStep
        split
        · exact hs
        · split
          · exact ih k _ (hk k (List.mem_cons_self ..)) hs
          · exact hs
      unfold runL
      split
      · exact ihl (fun k hk' => hk k (List.mem_cons_of_mem _ hk')) _ h1
      · exact h1
theorem firstF_des {m : Mk} {n : Nat} {t cuts : List (List Int)} {most : Int} {limit : Nat} (h : PartOk m t cuts) : ∀ x ∈ (firstF n t (keysOf m) cuts most limit).2.2, DesOk m t x := by
  have hm := Mk.ok_iff.1 h.fits.ok
  have hfew := h.few
  unfold firstF
  split
  · exact goF_des (by omega) (by omega) ⟨h, h.few⟩ (fun x hx => by cases hx)
  · intro x hx; cases hx
theorem findAns_len (m : Mk) (t cuts : List (List Int)) (limit : Int) : (findAns m t cuts limit).1.length ≤ 1048576 ∧ ∀ r ∈ (findAns m t cuts limit).1, r.length ≤ 1048576 := by
  unfold findAns
  split
  · exact ⟨Nat.zero_le _, fun r hr => by cases hr⟩
  · rename_i h
    have hok := searchC_ok.1 (Decidable.not_not.1 h)
    unfold pickA
    split
    · rename_i d ds hd
      have hdo := (firstF_des hok.1 d (by rw [hd]; exact List.mem_cons_self ..)).few
      exact ⟨by have := hdo.1; show d.length ≤ 1048576; omega, fun r hr => by
        have hr : r ∈ d := hr
        obtain ⟨k, hk, rfl⟩ := List.getElem_of_mem hr
        have := (hdo.2 k hk).1
        rw [getl_eq hk] at this
        omega⟩
    · split <;> exact ⟨Nat.zero_le _, fun r hr => by cases hr⟩
end Go.Proofs.YtikdbjaimcciiaaGreat

namespace Go.Proofs.YtikdbjaimcciiaaGreat
open Go.RowKit
set_option linter.unusedVariables false
set_option linter.unusedSimpArgs false

def nextDAns (m : Mk) (t cuts : List (List Int)) (limit : Int) : List (List Int) × Int :=
  if searchC m t cuts limit ≠ 0 then ([], searchC m t cuts limit) else if cuts.length < t.length then ([], 5)
  else ((pickA (nextF m m.c.toNat t cuts limit.toNat cuts.length (0, false, []))).1, (pickA (nextF m m.c.toNat t cuts limit.toNat cuts.length (0, false, []))).2.2)
/-! ### The beginning of open cuts is open -/
theorem doorCuts_step (t cuts : List (List Int)) (d k : Nat) : doorCuts t cuts d (k + 1) = if geti (getl t k) d = 1 then doorCuts t cuts d k ++ [getl cuts k] else doorCuts t cuts d k := rfl
theorem doorCuts_take {t cuts : List (List Int)} {d r : Nat} : ∀ {k : Nat}, k ≤ r → doorCuts t (cuts.take r) d k = doorCuts t cuts d k
  | 0, _ => rfl
  | k + 1, h => by rw [doorCuts_step, doorCuts_step, doorCuts_take (by omega), getl_take (by omega)]
theorem doorCuts_mono {t cuts : List (List Int)} {d k : Nat} {x : List Int} (h : x ∈ doorCuts t cuts d k) : ∀ j, x ∈ doorCuts t cuts d (k + j)
  | 0 => h
  | j + 1 => by
    have h1 := doorCuts_mono h j
    show x ∈ doorCuts t cuts d ((k + j) + 1)
    rw [doorCuts_step]
    split
    · exact List.mem_append.2 (.inl h1)
    · exact h1
theorem open_take {n : Nat} {t cuts : List (List Int)} {r : Nat} (hlc : ∀ k, k < cuts.length → (getl cuts k).length = n) (h : falseL n t cuts = []) : falseL n t (cuts.take r) = [] := by
  refine List.eq_nil_iff_forall_not_mem.2 fun x hx => ?_
  obtain ⟨i, d, hi, hd, rfl, ha, ho⟩ := mem_falseRows.1 hx
  rw [List.length_take] at hi
  rw [locksTo_get hd] at ho
  have h1 : [(i : Int), (d : Int)] ∈ falseL n t cuts := mem_falseRows.2 ⟨i, d, by omega, hd, rfl, ha, by
    rw [locksTo_get hd]
    rw [getl_take (by omega)] at ho
    rw [opensB_iff] at ho ⊢
    intro c hc
    have hcn : c < n := by rw [← hlc i (by omega)]; exact hc
    obtain ⟨k, hk, e⟩ := (mem_lock hcn).1 (ho c hc)
    refine (mem_lock hcn).2 ⟨k, ?_, e⟩
    rw [doorCuts_take (by rw [List.length_take]; omega)] at hk
    have h2 := doorCuts_mono hk (cuts.length - (cuts.take r).length)
    rw [show (cuts.take r).length + (cuts.length - (cuts.take r).length) = cuts.length by rw [List.length_take]; omega] at h2
    exact h2⟩
  rw [h] at h1
  cases h1
theorem PartOk.take {m : Mk} {t cuts : List (List Int)} (h : PartOk m t cuts) (r : Nat) : PartOk m t (cuts.take r) := by
  have hf := h.few
  refine ⟨h.sys, by rw [List.length_take]; omega, allKeys_iff.2 fun k hk => ?_⟩
  rw [List.length_take] at hk
  rw [getl_take (by omega)]
  exact allKeys_iff.1 h.keys k (by omega)
theorem behind_isKey {m : Mk} {fr x : List Int} (hc : 0 ≤ m.c) (hk : isKeyB m fr = true) (hx : x ∈ behind m fr) : isKeyB m x = true := by
  obtain ⟨L1, L2, hL⟩ := List.append_of_mem ((mem_keysOf hc).2 hk)
  rw [keys_behind hc hL] at hx
  exact (mem_keysOf hc).1 (by rw [hL]; simp [hx])
theorem backF_des {m : Mk} {n : Nat} {t cuts : List (List Int)} {limit row : Nat} {s : DSt} (h : PartOk m t cuts) (hr : row < cuts.length) (hs : ∀ x ∈ s.2.2, DesOk m t x) : ∀ x ∈ (backF m n t cuts limit row s).1.2.2, DesOk m t x := by
  have hm := Mk.ok_iff.1 h.fits.ok
  have hf := h.few
  have hl : (cuts.take row).length = row := by rw [List.length_take]; omega
  have hd : DesOk m t (cuts.take row) := ⟨h.take row, by omega⟩
  exact goF_des.goL_des (by omega) (by omega) hd _ (fun k hk => behind_isKey (by omega) (allKeys_iff.1 h.keys row hr) hk) (fun key s hk hs => goF_des (by omega) (by simp; omega) ⟨hd.part.more (by omega) hk, by simp; omega⟩ hs) s hs
theorem nextF_des {m : Mk} {n : Nat} {t cuts : List (List Int)} {limit : Nat} (h : PartOk m t cuts) : ∀ {r : Nat} {s : DSt}, r ≤ cuts.length → (∀ x ∈ s.2.2, DesOk m t x) → ∀ x ∈ (nextF m n t cuts limit r s).2.2, DesOk m t x
  | 0, s, _, hs => hs
  | r + 1, s, hr, hs => by
    have h1 := backF_des (n := n) (limit := limit) h (show r < cuts.length by omega) hs
    unfold nextF
    split
    · exact nextF_des h (by omega) h1
    · exact h1
theorem nextDAns_len (m : Mk) (t cuts : List (List Int)) (limit : Int) : (nextDAns m t cuts limit).1.length ≤ 1048576 ∧ ∀ r ∈ (nextDAns m t cuts limit).1, r.length ≤ 1048576 := by
  unfold nextDAns
  split
  · exact ⟨Nat.zero_le _, fun r hr => by cases hr⟩
  · rename_i h
    split
    · exact ⟨Nat.zero_le _, fun r hr => by cases hr⟩
    · have hok := searchC_ok.1 (Decidable.not_not.1 h)
      have hall := nextF_des (n := m.c.toNat) (limit := limit.toNat) hok.1 (Nat.le_refl _) (s := (0, false, [])) (fun x hx => by cases hx)
      show (pickA _).1.length ≤ _ ∧ ∀ r ∈ (pickA _).1, _
      unfold pickA
      split
      · rename_i d ds hd
        have hdo := (hall d (by rw [hd]; exact List.mem_cons_self ..)).few
        exact ⟨by have := hdo.1; show d.length ≤ 1048576; omega, fun r hr => by
          have hr : r ∈ d := hr
          obtain ⟨k, hk, rfl⟩ := List.getElem_of_mem hr
          have := (hdo.2 k hk).1
          rw [getl_eq hk] at this
          omega⟩
      · split <;> exact ⟨Nat.zero_le _, fun r hr => by cases hr⟩
/-- If the limit was met, nothing is found. -/
def exK (s : DSt) : Prop := s.2.1 = true → s.2.2 = []
theorem actK.ex {s : DSt} (h : actK s) : exK s := fun _ => h.2
theorem runL_exK {f : DSt → List Int → DSt × Bool} (ha : ∀ s k, actK s → ((f s k).2 = true ↔ actK (f s k).1)) (hf : ∀ s k, actK s → exK (f s k).1) : ∀ (l : List (List Int)) (s : DSt), actK s → exK (runL f s l).1
  | [], s, h => h.ex
  | k :: l, s, h => by
    unfold runL
    by_cases hk : (f s k).2 = true
    · rw [if_pos hk]; exact runL_exK ha hf l _ ((ha s k h).1 hk)
    · rw [if_neg hk]; exact hf s k h
theorem goStep_exK {limit : Nat} {stay : List (List Int) → List Int → Bool} {rec : List (List Int) → DSt → DSt × Bool} (hr : ∀ c s, actK s → exK (rec c s).1) {cuts : List (List Int)} {s : DSt} {key : List Int} (h : actK s) : exK (goStep limit stay rec cuts s key).1 := by
  unfold goStep
  split
  · exact fun _ => h.2
  · split
    · exact hr _ _ h
    · exact fun h2 => by have h3 : s.2.1 = true := h2; rw [h.1] at h3; cases h3
theorem goF_exK {limit : Nat} {stay : List (List Int) → List Int → Bool} {keys : List (List Int)} : ∀ {d : Nat} {cuts : List (List Int)} {s : DSt}, actK s → exK (goF limit stay (visK 1) keys d cuts s).1
  | 0, cuts, s, h => fun h2 => by have h3 : s.2.1 = true := h2; rw [h.1] at h3; cases h3
  | d + 1, cuts, s, h => runL_exK (fun s k hs => goStep_actK (fun c s hs => goF_actK hs) hs) (fun s k hs => goStep_exK (fun c s hs => goF_exK hs) hs) keys s h
theorem backF_exK {m : Mk} {n : Nat} {t cuts : List (List Int)} {limit row : Nat} {s : DSt} (h : actK s) : exK (backF m n t cuts limit row s).1 :=
  runL_exK (fun s k hs => goStep_actK (fun c s hs => goF_actK hs) hs) (fun s k hs => goStep_exK (fun c s hs => goF_exK hs) hs) _ s h
/-- Going back row by row: where the walk stands. -/
def NextAt (m : Mk) (n : Nat) (t cuts : List (List Int)) (limit : Nat) (res : DSt) (r : Nat) (s : DSt) : Prop :=
  (actK s ∧ res = nextF m n t cuts limit r s) ∨ (¬ actK s ∧ res = s)
theorem NextAt.step {m : Mk} {n : Nat} {t cuts : List (List Int)} {limit : Nat} {res : DSt} {r : Nat} {s : DSt} (h : NextAt m n t cuts limit res (r + 1) s) (ha : actK s) : NextAt m n t cuts limit res r (backF m n t cuts limit r s).1 := by
  rcases h with ⟨_, h⟩ | ⟨h, _⟩
  · have h1 := backF_actK (m := m) (n := n) (t := t) (cuts := cuts) (limit := limit) (row := r) ha
    unfold nextF at h
    by_cases hb : (backF m n t cuts limit r s).2 = true
    · rw [if_pos hb] at h
      exact .inl ⟨h1.1 hb, h⟩
    · rw [if_neg hb] at h
      exact .inr ⟨fun hh => hb (h1.2 hh), h⟩
  · exact absurd ha h
theorem NextAt.last {m : Mk} {n : Nat} {t cuts : List (List Int)} {limit : Nat} {res : DSt} {s : DSt} (h : NextAt m n t cuts limit res 0 s) : res = s := by
  rcases h with ⟨_, h⟩ | ⟨_, h⟩ <;> exact h
theorem NextAt.stop {m : Mk} {n : Nat} {t cuts : List (List Int)} {limit : Nat} {res : DSt} {r : Nat} {s : DSt} (h : NextAt m n t cuts limit res r s) (hn : ¬ actK s) : res = s := by
  rcases h with ⟨h, _⟩ | ⟨_, h⟩
  · exact absurd h hn
  · exact h
end Go.Proofs.YtikdbjaimcciiaaGreat
