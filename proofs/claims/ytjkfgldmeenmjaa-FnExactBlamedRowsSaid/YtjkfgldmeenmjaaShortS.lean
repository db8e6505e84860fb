/- Plain lists: the short reason, as the reference chooses it branch by branch. No program here. No conditions. -/
import Derived.Test.YtjkfgldmeenmjaaShortO
namespace Go.Proofs.Ytjkfgldmeenmjaa
open Go.RowKit
set_option linter.unusedVariables false
set_option linter.unusedSimpArgs false

theorem filter_ne_len {x : Int} : ∀ {L : List Int}, L.Pairwise (· < ·) → x ∈ L → (L.filter fun y => decide (y ≠ x)).length + 1 = L.length
  | [], _, h => by cases h
  | y :: ys, hp, h => by
    rw [List.pairwise_cons] at hp
    by_cases e : y = x
    · subst e
      have : ys.filter (fun z => decide (z ≠ y)) = ys := List.filter_eq_self.2 fun z hz => by have := hp.1 z hz; simp; omega
      rw [List.filter_cons, if_neg (by simp), this, List.length_cons]
    · have hx : x ∈ ys := by rcases List.mem_cons.1 h with h | h; exact absurd h.symm e; exact h
      rw [List.filter_cons, if_pos (by simp [e]), List.length_cons, List.length_cons, filter_ne_len hp.2 hx]
theorem diff_snoc (a : List Int) (x : Int) : (diffI (a ++ [x])).length = (diffI a).length + if x ∈ a then 0 else 1 := by
  obtain ⟨s1, m1⟩ := diffI_sort (a ++ [x])
  obtain ⟨s2, m2⟩ := diffI_sort a
  by_cases h : x ∈ a
  · rw [if_pos h, Nat.add_zero]
    congr 1
    refine sorted_ext s1 s2 fun y => ?_
    rw [m1, m2, List.mem_append, List.mem_singleton]
    exact ⟨fun hh => by rcases hh with hh | hh; exact hh; rw [hh]; exact h, .inl⟩
  · rw [if_neg h]
    have e : (diffI (a ++ [x])).filter (fun y => decide (y ≠ x)) = diffI a := by
      refine sorted_ext (s1.filter _) s2 fun y => ?_
      rw [List.mem_filter, m1, m2, List.mem_append, List.mem_singleton, decide_eq_true_eq]
      exact ⟨fun ⟨h1, h2⟩ => by rcases h1 with h1 | h1; exact h1; exact absurd h1 h2, fun hy => ⟨.inl hy, fun e => h (by rw [← e]; exact hy)⟩⟩
    rw [← e]
    exact (filter_ne_len s1 ((m1 x).2 (by simp))).symm
theorem kindsTo_diff (l : List Int) : ∀ k, k ≤ l.length → kindsTo l k = (diffI (l.take k)).length
  | 0, _ => by
    have : diffI (l.take 0) = [] := List.eq_nil_iff_forall_not_mem.2 fun y hy => by rw [(diffI_sort _).2, List.take_zero] at hy; cases hy
    rw [this]; rfl
  | k + 1, h => by
    rw [kindsTo, kindsTo_diff l k (by omega), take_geti h, diff_snoc]
    congr 1
    by_cases e : geti l k ∈ l.take k
    · rw [if_pos e, if_pos (hasI_iff.2 e)]
    · rw [if_neg e, if_neg (fun hh => e (hasI_iff.1 hh))]
theorem kinds_diff (l : List Int) : kinds l = (diffI l).length := by
  unfold kinds; rw [kindsTo_diff l _ (Nat.le_refl _), List.take_length]
/-- The better of two best choices. -/
def comb (n : Nat) (o p : Option (List Int)) : Option (List Int) := match p with
  | none => o
  | some l => better n o l
theorem comb_better (n : Nat) (o p : Option (List Int)) (x : List Int) : comb n o (better n p x) = better n (comb n o p) x := by
  cases o with
  | none => cases p with
    | none => rfl
    | some l =>
      by_cases h : wt n x < wt n l
      · simp [comb, better, h]
      · simp [comb, better, h]
  | some a => cases p with
    | none => rfl
    | some l =>
      by_cases h1 : wt n x < wt n l <;> by_cases h2 : wt n l < wt n a <;> by_cases h3 : wt n x < wt n a <;> simp [comb, better, h1, h2, h3] <;> omega
theorem foldl_comb (n : Nat) (o : Option (List Int)) : ∀ (L : List (List Int)), L.foldl (better n) o = comb n o (bestW n L) := by
  have key : ∀ (L : List (List Int)) (p : Option (List Int)), L.foldl (better n) (comb n o p) = comb n o (L.foldl (better n) p) := by
    intro L
    induction L with
    | nil => intro p; rfl
    | cons x L ih => intro p; rw [List.foldl_cons, List.foldl_cons, ← comb_better, ih]
  intro L
  exact key L none
theorem bestW_append (n : Nat) (L1 L2 : List (List Int)) : bestW n (L1 ++ L2) = comb n (bestW n L1) (bestW n L2) := by
  unfold bestW; rw [List.foldl_append]; exact foldl_comb n _ L2
/-- The choices that begin with beg. -/
def extR (rows : List (List Int)) (beg : List Int) : List (List Int) := (allR (rows.drop beg.length)).map fun l => beg ++ l
def extTo (rows : List (List Int)) (beg : List Int) (x : Nat) : List (List Int) := ((getl rows beg.length).take x).flatMap fun y => extR rows (beg ++ [y])
theorem extR_end {rows : List (List Int)} {beg : List Int} (h : beg.length = rows.length) : extR rows beg = [beg] := by
  unfold extR; rw [h, List.drop_length]; simp [allR]
theorem extR_all {rows : List (List Int)} {beg : List Int} (h : beg.length < rows.length) : extR rows beg = extTo rows beg (getl rows beg.length).length := by
  unfold extTo extR
  rw [List.take_length, List.drop_eq_getElem_cons h, allR, List.map_flatMap, getl_eq h]
  congr 1
  funext x
  rw [List.map_map, List.length_append, List.length_singleton]
  congr 1
  funext l
  simp
theorem extTo_succ (rows : List (List Int)) (beg : List Int) {x : Nat} (h : x < (getl rows beg.length).length) : extTo rows beg (x + 1) = extTo rows beg x ++ extR rows (beg ++ [geti (getl rows beg.length) x]) := by
  unfold extTo; rw [take_geti h, List.flatMap_append]; simp
theorem mem_extR {rows : List (List Int)} {beg l : List Int} (h : l ∈ extR rows beg) : ∃ t, l = beg ++ t ∧ t.length = (rows.drop beg.length).length ∧ ∀ k, k < (rows.drop beg.length).length → geti t k ∈ getl (rows.drop beg.length) k := by
  unfold extR at h
  rw [List.mem_map] at h
  obtain ⟨t, ht, rfl⟩ := h
  obtain ⟨h1, h2⟩ := mem_allR.1 ht
  exact ⟨t, rfl, h1, h2⟩
theorem codeL_pre {p a b : List Int} (hl : a.length = b.length) (h : codeL a < codeL b) : codeL (p ++ a) < codeL (p ++ b) := by
  induction p with
  | nil => exact h
  | cons x p ih =>
    show codeL (x :: (p ++ a)) < codeL (x :: (p ++ b))
    rw [codeL, codeL, List.length_append, List.length_append, hl]
    omega
theorem extR_dig {n : Nat} {rows : List (List Int)} (hR : RowsOk n rows) {beg l : List Int} (hb : Dig beg) (hbl : beg.length ≤ rows.length) (h : l ∈ extR rows beg) : Dig l ∧ l.length = rows.length := by
  obtain ⟨t, rfl, h1, h2⟩ := mem_extR h
  rw [List.length_drop] at h1
  refine ⟨fun x hx => ?_, by rw [List.length_append]; omega⟩
  rcases List.mem_append.1 hx with hx | hx
  · exact hb x hx
  · obtain ⟨k, hk, rfl⟩ := List.getElem_of_mem hx
    have h3 := h2 k (by rw [List.length_drop]; omega)
    rw [show getl (rows.drop beg.length) k = getl rows (beg.length + k) from by simp [getl]] at h3
    have := hR.low _ _ h3
    rw [geti_eq hk] at this
    have := hR.few
    omega
/-- A later branch holds greater choices. -/
theorem ext_lt {n : Nat} {rows : List (List Int)} (hR : RowsOk n rows) {beg b l : List Int} {x : Nat} (hx : x < (getl rows beg.length).length) (hbl : beg.length < rows.length) (h1 : b ∈ extTo rows beg x) (h2 : l ∈ extR rows (beg ++ [geti (getl rows beg.length) x])) : codeL b < codeL l := by
  unfold extTo at h1
  rw [List.mem_flatMap] at h1
  obtain ⟨y, hy, hby⟩ := h1
  obtain ⟨i, hi, rfl⟩ := List.getElem_of_mem hy
  rw [List.length_take] at hi
  rw [List.getElem_take] at hby
  have hlt := List.pairwise_iff_getElem.1 (hR.up beg.length) i x (by omega) hx (by omega)
  obtain ⟨t1, rfl, e1, g1⟩ := mem_extR hby
  obtain ⟨t2, rfl, e2, g2⟩ := mem_extR h2
  rw [geti_eq hx] at *
  have d1 : ∀ {z : Int} {t : List Int}, z ∈ getl rows beg.length → t.length = (rows.drop (beg ++ [z]).length).length → (∀ k, k < (rows.drop (beg ++ [z]).length).length → geti t k ∈ getl (rows.drop (beg ++ [z]).length) k) → Dig (z :: t) := by
    intro z t hz ht hg w hw
    rcases List.mem_cons.1 hw with e | hw
    · rw [e]; have := hR.low _ _ hz; have := hR.few; omega
    · obtain ⟨k, hk, rfl⟩ := List.getElem_of_mem hw
      have h3 := hg k (by omega)
      rw [show getl (rows.drop (beg ++ [z]).length) k = getl rows ((beg ++ [z]).length + k) from by simp [getl]] at h3
      have := hR.low _ _ h3
      rw [geti_eq hk] at this
      have := hR.few
      omega
  have hl : t1.length = t2.length := by rw [e1, e2]; simp
  rw [List.append_assoc, List.append_assoc]
  refine codeL_pre (by simp [hl]) ?_
  exact codeL_cons (d1 (List.getElem_mem _) e1 g1) (d1 (List.getElem_mem _) e2 g2) hl hlt
theorem extTo_dig {n : Nat} {rows : List (List Int)} (hR : RowsOk n rows) {beg b : List Int} {x : Nat} (hb : Dig beg) (hbl : beg.length < rows.length) (h : b ∈ extTo rows beg x) : Dig b ∧ b.length = rows.length := by
  unfold extTo at h
  rw [List.mem_flatMap] at h
  obtain ⟨y, hy, hby⟩ := h
  have hy2 := hR.low _ _ (List.mem_of_mem_take hy)
  refine extR_dig hR (fun z hz => ?_) (by simp; omega) hby
  rcases List.mem_append.1 hz with hz | hz
  · exact hb z hz
  · obtain rfl := List.mem_singleton.1 hz
    have := hR.few; omega
/-- The best choice grows branch by branch: a later branch's best one is taken if it has fewer different rows. -/
theorem ext_best {n : Nat} {rows : List (List Int)} (hR : RowsOk n rows) {beg : List Int} {x : Nat} (hb : Dig beg) (hx : x < (getl rows beg.length).length) (hbl : beg.length < rows.length) :
    bestW rows.length (extTo rows beg (x + 1)) = match bestW rows.length (extR rows (beg ++ [geti (getl rows beg.length) x])) with
      | none => bestW rows.length (extTo rows beg x)
      | some l => match bestW rows.length (extTo rows beg x) with
        | none => some l
        | some b => if kinds l < kinds b then some l else some b := by
  rw [extTo_succ rows beg hx, bestW_append]
  cases hl : bestW rows.length (extR rows (beg ++ [geti (getl rows beg.length) x])) with
  | none => rfl
  | some l =>
    cases hbo : bestW rows.length (extTo rows beg x) with
    | none => rfl
    | some b =>
      have m1 := (bestW_some hl).1
      have m2 := (bestW_some hbo).1
      have hlt := ext_lt hR hx hbl m2 m1
      have hy2 := hR.low _ _ (geti_mem hx)
      have d1 := extR_dig hR (beg := beg ++ [geti (getl rows beg.length) x]) (fun z hz => by
        rcases List.mem_append.1 hz with hz | hz
        · exact hb z hz
        · obtain rfl := List.mem_singleton.1 hz
          have := hR.few; omega) (by simp; omega) m1
      have d2 := extTo_dig hR hb hbl m2
      have hw := wt_lt d1.1 d2.1 d1.2 d2.2
      show better rows.length (some b) l = _
      unfold better
      simp only
      rw [kinds_diff, kinds_diff]
      by_cases h : (diffI l).length < (diffI b).length
      · rw [if_pos h, if_pos (hw.2 (.inl h))]
      · rw [if_neg h, if_neg (fun hh => by rcases hw.1 hh with h3 | h3 <;> omega)]
end Go.Proofs.Ytjkfgldmeenmjaa
