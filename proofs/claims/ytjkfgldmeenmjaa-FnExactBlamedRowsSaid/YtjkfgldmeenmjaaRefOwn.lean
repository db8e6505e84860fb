/- The reference's copies of lists. No conditions. -/
import Derived.Laws.AppendOwnNone
import Derived.Deep.RegionHeld3
import Derived.Deep.AppendLies
import Derived.Test.YtjkfgldmeenmjaaBegins
namespace Go.Proofs.Ytjkfgldmeenmjaa
open Go.RowKit
set_option linter.unusedVariables false
set_option linter.unusedSimpArgs false

/-- A slice that has an address, or nil. -/
def PV (v : Value) : Prop := v = .slice none 0 0 ∨ ∃ b off n c, v = .slice (some ⟨b, off, none⟩) n c
theorem V1.pv {S : Nat → Prop} {w : World} {v : Value} {l : List Int} (h : V1 S w v l) (hn : l ≠ []) : PV v := by
  obtain ⟨a, c, rfl, _, _, h⟩ := h
  obtain ⟨b, off, ev, rfl, _⟩ := h 0 (by cases l with | nil => exact absurd rfl hn | cons x xs => simp)
  exact .inr ⟨_, _, _, _, rfl⟩
theorem own_pv {w : World} {B : Nat} {e : TypeId} {v : Value} {n : Nat} {xs : List Value} (h : w.ownsRow B e 1 v n xs) : PV v := by
  rcases h.2 with ⟨rfl, h0⟩ | ⟨g, cap, cur, rfl, _⟩
  · exact .inl rfl
  · exact .inr ⟨_, _, _, _, rfl⟩

def OwnPost (W : World) (l : List Int) (e' : Ending) (w' : World) : Prop := ∃ v', e' = .returned v' ∧ w'.ownsRow W.heap.size 2 1 v' l.length (l.map (Value.int .i64)) ∧ Below W.heap.size W w'
theorem l01Own_any {S : Nat → Prop} (v : Value) (l : List Int) (W : World) (h : V1 S W v l) (hp : l = [] → PV v) (hlen : l.length ≤ 1000000) :
    Calls Try.prog 45 #[v] W (OwnPost W l) := by
  obtain ⟨i0, hi, hz0, hz1, hz2⟩ := info_parts inf_int
  have hV := h
  obtain ⟨a, c, rfl, hm⟩ := h.form
  by_cases hn : l = []
  · subst hn
    rcases hp rfl with e | ⟨b, off, n, c', e⟩
    · simp only [List.length_nil, Value.slice.injEq] at e
      obtain ⟨rfl, _, rfl⟩ := e
      have hown0 := own_lit0 W W.heap.size 2 1 (Nat.le_refl _)
      go_enter Try.func45, Try.ntmps45
      go_wp2_with (at_builtin; refine wpList_append_own_none rfl _ _ 29 rfl W.heap.size 2 i0 1 Try.underlying29 hi _ _ _ rfl hown0 rfl ?_)
      go_ret
      exact ⟨_, rfl, hown0, (Below.refl _ _).alloc (Nat.le_refl _) _⟩
    · simp only [List.length_nil, Value.slice.injEq] at e
      obtain ⟨rfl, rfl, rfl⟩ := e
      have hown0 := own_lit0 W W.heap.size 2 1 (Nat.le_refl _)
      go_enter Try.func45, Try.ntmps45
      go_wp2_with (at_builtin; refine wp_app rfl _ _ 29 rfl W.heap.size 2 (.int .i64 0) 1 8 Try.underlying29 inf_int rfl (by omega) _ _ _ rfl hown0 _ _ _ [] rfl rfl (fun j u hj => by simp at hj) (by simp) (by unfold maxLen; omega) (by omega) (by simp) ?_; intro v1 w1 hown1 hgrow1 hblk1)
      go_ret
      exact ⟨_, rfl, hown1, ((Below.refl _ _).alloc (Nat.le_refl _) _).grown hgrow1 (by simp) (fun k hk => by have := hown0.lt k hk; exact this.1)⟩
  · obtain ⟨b, off, rfl, _, _⟩ := hV.cell (k := 0) (by cases l with | nil => exact absurd rfl hn | cons x xs => simp)
    have hown0 := own_lit0 W W.heap.size 2 1 (Nat.le_refl _)
    have hV2 := hV.below ((Below.refl W.heap.size W).alloc (Nat.le_refl _) (.cells #[] 2))
    have hnews : ∀ j u, (l.map (Value.int .i64))[j]? = some u → (W.alloc (.cells #[] 2)).cell? ((⟨b, off, none⟩ : Addr).add j) = some u := by
      intro j u hj
      have hjl : j < l.length := by
        rw [List.getElem?_map] at hj
        by_cases hjl : j < l.length
        · exact hjl
        · rw [List.getElem?_eq_none (by omega)] at hj; cases hj
      obtain ⟨b', off', e, _, hc⟩ := hV2.cell hjl
      simp only [Option.some.injEq, Addr.mk.injEq, and_true] at e
      obtain ⟨rfl, rfl⟩ := e
      rw [List.getElem?_map, List.getElem?_eq_getElem hjl] at hj
      have hadd : (⟨b, off, none⟩ : Addr).add j = ⟨b, off + j, none⟩ := by unfold Addr.add; split <;> simp_all
      rw [hadd, hc, ← hj, geti_eq hjl]; rfl
    have Hnews := Lib.hid hnews; clear hnews
    have Hn := Lib.hid hn; clear hn hp
    go_enter Try.func45, Try.ntmps45
    go_wp2_with (at_builtin; refine wp_app rfl _ _ 29 rfl W.heap.size 2 (.int .i64 0) 1 8 Try.underlying29 inf_int rfl (by omega) _ _ _ rfl hown0 _ _ _ (l.map (Value.int .i64)) rfl (by simp) Hnews.out (by intro u hu; simp at hu; obtain ⟨x, _, rfl⟩ := hu; rfl) (by unfold maxLen; omega) (by omega) (by simp) ?_; intro v1 w1 hown1 hgrow1 hblk1)
    go_ret
    refine ⟨_, rfl, ?_, ((Below.refl _ _).alloc (Nat.le_refl _) _).grown hgrow1 (by simp) (fun k hk => by have := hown0.lt k hk; exact this.1)⟩
    simpa using hown1
end Go.Proofs.Ytjkfgldmeenmjaa
