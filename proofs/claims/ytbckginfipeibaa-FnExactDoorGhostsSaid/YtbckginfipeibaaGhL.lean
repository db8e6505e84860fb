/- The ghosts of a lock, as the reference finds them. No conditions. -/
import Derived.Test.YtbckginfipeibaaOpeners
namespace Go.Proofs.Ytbckginfipeibaa
open Go.RowKit
set_option linter.unusedVariables false
set_option linter.unusedSimpArgs false

theorem countP_take {p : List Int → Bool} {list : List (List Int)} {k : Nat} (h : k < list.length) : (list.take (k + 1)).countP p = (list.take k).countP p + if p (getl list k) = true then 1 else 0 := by
  rw [take_getl h, List.countP_append]
  congr 1
  simp [List.countP_cons]
set_option maxRecDepth 100000 in
set_option maxHeartbeats 2000000 in
theorem l14Ghosts_any {S S' : Nat → Prop} (m : Mk) (hm : m.ok = true) (sets : List (List Int)) (hsl : (sets.length : Int) = m.c) (hok : SetsOk m sets) (u v : Value) (cuts : List (List Int)) (W : World) (h2 : V2 S W u sets) (hc : V2 S' W v cuts) :
    Calls Try.prog 65 #[.agg #[.int .i64 m.c, .int .i64 m.d, .int .i64 m.s, .int .i64 m.e, .int .i64 m.l], .agg #[u], v] W fun e' w' => ∃ a c, e' = .returned (.slice a (ghostsN m sets cuts) c) ∧ Below W.heap.size W w' := by
  have hmk := Mk.ok_iff.1 hm
  have hkl := keysOf_length hm
  have h8 := set_len hok (by omega)
  have h7 : ∀ i, ∀ x ∈ getl sets i, 0 ≤ x ∧ x ≤ 7 := fun i x hx => by have := (hok i).2 x hx; omega
  have hop := l04Openers_any m hm sets hsl h8 h7 m.c.toNat (fun _ => False) (fun _ => True) (.slice none 0 0)
  obtain ⟨ua, uc, rfl, hux⟩ := h2.form
  obtain ⟨a', c', rfl, hmx'⟩ := hc.form
  obtain ⟨list, hlist⟩ : ∃ x, (keysOf m).filter (opensB sets) = x := ⟨_, rfl⟩
  have hll : list.length ≤ 262144 := by rw [← hlist]; exact Nat.le_trans (List.length_filter_le _ _) hkl
  have hgs : genS m sets m.c.toNat [] = list := by rw [genS_all hok, hlist]
  have hgn : ghostsN m sets cuts = list.countP fun k => !hasL cuts k := by unfold ghostsN; rw [hlist]
  obtain ⟨N, hN⟩ : ∃ N, ghostsN m sets cuts = N := ⟨_, rfl⟩
  rw [hN] at hgn ⊢
  have HN := Lib.hid hgn
  clear hN
  have hcm : ((m.c.toNat : Nat) : Int) = m.c := by omega
  have hp8 : ((8 ^ m.c.toNat : Nat) : Int) ≤ 1000000 := by have := pow8 (rem := m.c.toNat) (by omega); omega
  have Hop := Lib.hid (And.intro hop (And.intro hgs (And.intro hcm hp8))); clear hop hgs hcm hp8
  have Hm := Lib.hid (And.intro hm (And.intro hmk (And.intro hlist (And.intro h8 (And.intro h7 hok))))); clear hm hmk hlist h8 h7 hok hkl hgn hsl
  obtain ⟨WA, hWA, hBA, hzA, HZA, hcA, hhA⟩ := box_facts W #[.int .i64 m.c, .int .i64 m.d, .int .i64 m.s, .int .i64 m.e, .int .i64 m.l] 32
  obtain ⟨W1, hW1, hB1, hz1', HZ1, hc1, hh1⟩ := box_facts WA #[.slice ua sets.length uc] 79
  have hB01 : Below W.heap.size W W1 := hBA.trans (hB1.mono (by omega))
  have hC1 := (hc.below hB01).old
  have h21 := (h2.below hB01).any
  clear hhA hh1 hcA hc1 hc h2
  go_enter Try.func65, Try.ntmps65
  go_wp2_with fail
  rw [← hWA, ← hW1]
  refine (Hop.out.1 _ [] _ W1 h21 ⟨none, 0, rfl, Nat.le_refl _, Nat.zero_le _, fun k hk => by simp at hk⟩ (fun _ => .inl rfl) (by have := Hop.out.2.2.1; simp; omega) (fun k hk => by simp at hk) Hop.out.2.2.2 (by omega)).mono ?_
  rintro e' wL ⟨lv, lvs, rfl, hlo, hlR, hbL⟩
  rw [Hop.out.2.1] at hlo hlR
  have hLV := (own_V2 hlo (hlR.mono (fun _ _ _ => trivial))).old
  obtain ⟨la, lc, rfl, hlm⟩ := hLV.form
  have hCL := (hC1.below hbL).any
  have hown0 := own_lit0 wL wL.heap.size 29 1 (Nat.le_refl _)
  clear hlo hlR
  have HW := Lib.hid (And.intro hWA hW1); clear hWA hW1
  have hbA : Below wL.heap.size wL (wL.alloc (.cells #[] 29)) := (Below.refl _ _).alloc (Nat.le_refl _) _
  go_wp2_with fail
  go_loopw [8, 9] (fun ou ix wr => ∃ (k : Nat) (vs : List Value), k ≤ list.length ∧ ix = .int .i64 (k : Int) ∧ wr.ownsRow wL.heap.size 29 1 ou ((list.take k).countP fun k => !hasL cuts k) vs ∧ Below wL.heap.size wL wr) (fun _ ix _ => list.length - (intOf ix).toNat)
  case atStart => exact ⟨0, [], Nat.zero_le _, rfl, hown0, hbA⟩
  case round =>
    obtain ⟨k, vs, hk, rfl, hown, hB⟩ := hrel
    have hzr := hB.size
    have hzL := hbL.size
    have hcp : ((list.take k).countP fun k => !hasL cuts k) ≤ 262144 := Nat.le_trans List.countP_le_length (by rw [List.length_take]; omega)
    obtain ⟨cnt, hcnt⟩ : ∃ cnt, ((list.take k).countP fun k => !hasL cuts k) = cnt := ⟨_, rfl⟩
    rw [hcnt] at hown hcp
    by_cases hkk : k < list.length
    · have hst := countP_take (p := fun k => !hasL cuts k) hkk
      rw [hcnt] at hst
      obtain ⟨b1, off1, a1, c1, rfl, _, hc1, hr1⟩ := (hLV.below hB).cell hkk
      cases hh : hasL cuts (getl list k)
      · rw [if_pos (by rw [hh]; rfl)] at hst
        have Hst := Lib.hid (And.intro hst (And.intro hh hcnt)); clear hst hh hcnt
        have Hown := Lib.hid hown; clear hown
        go_wp2_with fail
        refine (l14Has_b _ _ cuts _ _ _ Hst.out.2.1 (hCL.below hB) hr1).mono ?_
        rintro e' w6 ⟨rfl, nq, hw6⟩
        have hb6 : Below wr.heap.size wr w6 := by rw [hw6]; exact below_drewN (Below.refl _ _) _
        clear hw6
        have hown6 := own_keep Hown.out hb6
        have hc6 := cell_keep hc1 (hb6.block _ (lt_of_cell hc1))
        have hB6 := hB.trans (hb6.mono hzr)
        have hz6 := hB6.size
        go_wp2_with ((at_builtin; refine wp_app1 _ rfl _ _ 24 rfl wL.heap.size 29 (.slice none 0 0) 24 Try.underlying24 inf_ints rfl _ _ _ rfl hown6 (.slice a1 (getl list k).length c1) _ rfl rfl (by omega) (by omega) (by omega) ?_; intro v1 w1 hown1 hgrow1 hblk1 hB1); have hBN := hB6.trans hB1)
        have Hfin := Lib.hid (And.intro hown1 hBN); clear hown1 hBN hgrow1 hblk1 hB1
        go_roundw
        case rel => exact ⟨k + 1, _, by omega, by go_num, by rw [Hst.out.1]; exact Hfin.out.1, Hfin.out.2⟩
        case measure => simp [intOf]; omega
      · rw [if_neg (by rw [hh]; decide)] at hst
        have Hst := Lib.hid (And.intro hst (And.intro hh hcnt)); clear hst hh hcnt
        have Hown := Lib.hid hown; clear hown
        go_wp2_with fail
        refine (l14Has_b _ _ cuts _ _ _ Hst.out.2.1 (hCL.below hB) hr1).mono ?_
        rintro e' w6 ⟨rfl, nq, hw6⟩
        have hb6 : Below wr.heap.size wr w6 := by rw [hw6]; exact below_drewN (Below.refl _ _) _
        clear hw6
        have Hfin := Lib.hid (And.intro (own_keep Hown.out hb6) (hB.trans (hb6.mono hzr)))
        go_wp2_with fail
        go_roundw
        case rel => exact ⟨k + 1, vs, by omega, by go_num, by rw [Hst.out.1]; exact Hfin.out.1, Hfin.out.2⟩
        case measure => simp [intOf]; omega
    · obtain rfl : k = list.length := by omega
      rw [List.take_length, ← HN.out] at hcnt
      subst hcnt
      obtain ⟨oa, oc, rfl, ho1, ho2⟩ := own_form hown
      have Hown := Lib.hid hown; clear hown
      go_wp2_with fail
      go_ret
      exact ⟨_, _, rfl, hB01.trans ((hbL.trans (hB.mono hzL)).mono (by omega))⟩
end Go.Proofs.Ytbckginfipeibaa
