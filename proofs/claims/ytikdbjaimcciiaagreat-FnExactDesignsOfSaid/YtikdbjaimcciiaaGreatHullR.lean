/- What the reference answers on hulls and on opening a lock. No conditions. -/
import Derived.Test.YtikdbjaimcciiaaGreatMDiff
import Derived.Test.YtikdbjaimcciiaaGreatOut
import Derived.Test.YtikdbjaimcciiaaGreatMFault
namespace Go.Proofs.YtikdbjaimcciiaaGreat
open Go.RowKit
set_option linter.unusedVariables false
set_option linter.unusedSimpArgs false

theorem two_boxes (W : World) (cs ds : Array Value) (T U : TypeId) : ∃ W1, W1 = (W.alloc (.cells cs T)).alloc (.cells ds U) ∧ Below W.heap.size W W1 ∧ W.heap.size + 1 < W1.heap.size ∧ Hid (W1.heap.size = W.heap.size + 1 + 1) ∧ (∀ o, W1.cell? ⟨W.heap.size, o, none⟩ = cs[o]?) ∧ W1.heap[W.heap.size]? = some (.cells cs T (0, 0)) ∧
    (∀ o, W1.cell? ⟨W.heap.size + 1, o, none⟩ = ds[o]?) ∧ W1.heap[W.heap.size + 1]? = some (.cells ds U (0, 0)) := by
  have h0 : ((W.alloc (.cells cs T)).alloc (.cells ds U)).heap[W.heap.size]? = some (.cells cs T (0, 0)) := by
    rw [Below.heap_alloc _ _ _ (by simp)]; exact heap_alloc_self _ _
  have h1 : ((W.alloc (.cells cs T)).alloc (.cells ds U)).heap[W.heap.size + 1]? = some (.cells ds U (0, 0)) := by
    have := heap_alloc_self (W.alloc (.cells cs T)) (.cells ds U)
    simpa using this
  exact ⟨_, rfl, ((Below.refl _ _).alloc (Nat.le_refl _) _).alloc (by simp) _, by simp, Lib.hid (by simp), fun o => cell_of_block h0 o, h0, fun o => cell_of_block h1 o, h1⟩

set_option maxRecDepth 100000 in
set_option maxHeartbeats 2000000 in
theorem l04Hull_any {S : Nat → Prop} (m : Mk) (hm : m.ok = true) (v : Value) (keys : List (List Int)) (n : Nat) (W : World) (hn : (n : Int) = m.c) (h : V2 S W v keys) (hl : keys.length ≤ 300)
    (hlen : ∀ k, k < keys.length → (getl keys k).length = n) (hrg : ∀ k, k < keys.length → ∀ i, i < n → 0 ≤ geti (getl keys k) i ∧ geti (getl keys k) i ≤ m.d - 1) :
    Calls Tryz.prog 236 #[.agg #[.int .i64 m.c, .int .i64 m.d, .int .i64 m.s, .int .i64 m.e, .int .i64 m.l], v] W fun e' w' => ∃ v', e' = .returned (.agg #[v']) ∧ F2 W.heap.size w' v' (hullR keys n) ∧ Below W.heap.size W w' := by
  have hmk := Mk.ok_iff.1 hm
  obtain ⟨a, c, rfl, hmx⟩ := h.form
  obtain ⟨d, hd1, hd2, hd8⟩ : ∃ d : Nat, (d : Int) ≤ m.d ∧ m.d ≤ d ∧ d ≤ 8 := ⟨m.d.toNat, by omega, by omega, by omega⟩
  have hn1 : (n : Int) ≤ m.c := by omega
  have hn2 : m.c ≤ n := by omega
  have hn6 : n ≤ 6 := by omega
  have hset : ∀ i, i < n → dset keys i d = diffI (colOf keys i) := fun i hi => dset_eq fun j hj => ⟨(hrg j hj i hi).1, by have := (hrg j hj i hi).2; omega⟩
  have Hset := Lib.hid hset; clear hset hrg
  have Hlen := Lib.hid hlen; clear hlen hmk hm hn
  obtain ⟨W1, hW1, hB01, hz01, HZ01, hc01, hh01, hc02, hh02⟩ := two_boxes W #[.int .i64 m.c, .int .i64 m.d, .int .i64 m.s, .int .i64 m.e, .int .i64 m.l] #[.slice none 0 0] 25 155
  have hV1 := h.below hB01
  have hout0 := Out2.start W1 W1.heap.size (Nat.le_refl _)
  have Hout0 := Lib.hid hout0; clear hout0
  go_enter Tryz.func236, Tryz.ntmps236
  go_wp2_with fail
  rw [← hW1, show W.heap.size + 1 + 1 = W1.heap.size from HZ01.out.symm]
  have HW1 := Lib.hid hW1; clear hW1
  have Hc01 := Lib.hid (And.intro hc01 (And.intro hh01 (And.intro hc02 hh02))); clear hc01 hh01 hc02 hh02
  go_loopw [5, 6, 7, 8, 9, 10] (fun ou i _ _ _ _ wr => ∃ x : Nat, x ≤ n ∧ i = .int .i64 (x : Int) ∧ Out2 W1.heap.size wr ou (hullR keys x) ∧ Below W1.heap.size W1 wr) (fun _ i _ _ _ _ _ => n - (intOf i).toNat)
  case atStart => exact ⟨0, Nat.zero_le _, rfl, Hout0.out, (Below.refl _ _).alloc (Nat.le_refl _) _⟩
  case round =>
    obtain ⟨x, hx, rfl, hO, hB⟩ := hrel
    obtain ⟨wo, rfl⟩ : ∃ wo, wo = wr := ⟨_, rfl⟩
    have hzr := hB.size
    have hxo : ∀ o, wo.cell? ⟨W.heap.size, o, none⟩ = (#[.int .i64 m.c, .int .i64 m.d, .int .i64 m.s, .int .i64 m.e, .int .i64 m.l] : Array Value)[o]? := fun o => by rw [(bcell hB).1 _ _ (by omega), Hc01.out.1]
    by_cases hxn : x < n
    · obtain ⟨B, hB0⟩ : ∃ B, B = wo.heap.size := ⟨_, rfl⟩
      have hown0 := own_lit0 wo B 2 1 (by omega)
      have HO := Lib.hid hO; clear hO
      have hxd : decide ((x : Int) < m.c) = true := by simp; omega
      go_wp2_with fail
      clear hxo
      go_loopw [7, 8, 9, 10] (fun ro j _ _ wn => ∃ y : Nat, y ≤ d ∧ j = .int .i64 (y : Int) ∧ wn.ownsRow B 2 1 ro (dset keys x y).length ((dset keys x y).map (Value.int .i64)) ∧ Below B wo wn) (fun _ j _ _ _ => d - (intOf j).toNat)
      case atStart => exact ⟨0, Nat.zero_le _, rfl, hown0, (Below.refl _ _).alloc (by omega) _⟩
      case round =>
        obtain ⟨y, hy, rfl, hown, hBn⟩ := hrel
        obtain ⟨wm, rfl⟩ : ∃ wm, wm = wr := ⟨_, rfl⟩
        have hdl := dset_len keys x y
        have hzn := hBn.size
        have hBW := hB.trans (hBn.mono (by omega))
        have hzW := hBW.size
        have hxm : ∀ o, wm.cell? ⟨W.heap.size, o, none⟩ = (#[.int .i64 m.c, .int .i64 m.d, .int .i64 m.s, .int .i64 m.e, .int .i64 m.l] : Array Value)[o]? := fun o => by rw [(bcell hBW).1 _ _ (by omega), Hc01.out.1]
        by_cases hyd : y < d
        · have hyd2 : decide ((y : Int) < m.d) = true := by simp; omega
          go_wp2_with fail
          clear hxm
          go_loopw [9, 10] (fun th k wk => ∃ q : Nat, q ≤ keys.length ∧ k = .int .i64 (q : Int) ∧ th = .bool (isCut keys x y q) ∧ wk = wm) (fun _ k _ => keys.length - (intOf k).toNat)
          case atStart => exact ⟨0, Nat.zero_le _, rfl, rfl, rfl⟩
          case round =>
            obtain ⟨q, hq, rfl, rfl, rfl⟩ := hrel
            by_cases hqq : q < keys.length
            · obtain ⟨b1, off1, a1, c1, rfl, _, hc1, hr1⟩ := (hV1.below hBW).cell hqq
              have hxq : x < (getl keys q).length := by rw [Hlen.out q hqq]; exact hxn
              obtain ⟨b2, off2, rfl, _, hc2⟩ := hr1.cell hxq
              have hll := hr1.len
              unfold maxLen at hll
              cases hd : isCut keys x y q
              · have hst : isCut keys x y (q + 1) = decide (geti (getl keys q) x = y) := by rw [isCut, hd]; rfl
                have Hst := Lib.hid hst; clear hst
                have Hd := Lib.hid hd; clear hd
                go_wp2_with fail
                all_goals go_roundw
                all_goals first | (case rel => exact ⟨q + 1, by omega, by go_num, by rw [Hst.out]; first | rfl | simp_all, by first | rfl | trivial⟩) | skip
                all_goals (simp [intOf]; omega)
              · have hst : isCut keys x y (q + 1) = true := by rw [isCut, hd]; rfl
                have Hst := Lib.hid hst; clear hst
                have Hd := Lib.hid hd; clear hd
                go_wp2_with fail
                go_roundw
                case rel => exact ⟨q + 1, by omega, by go_num, by rw [Hst.out], by first | rfl | trivial⟩
                case measure => simp [intOf]; omega
            · obtain rfl : q = keys.length := by omega
              cases hdo : isCut keys x y keys.length
              · have hst : dset keys x (y + 1) = dset keys x y := by rw [dset, hdo]; rfl
                have Hst := Lib.hid hst; clear hst
                have Hdo := Lib.hid hdo; clear hdo
                go_wp2_with fail
                go_roundw
                case rel => exact ⟨y + 1, by omega, by go_num, by rw [Hst.out]; exact hown, hBn⟩
                case measure => simp [intOf]; omega
              · have hst : dset keys x (y + 1) = dset keys x y ++ [(y : Int)] := by rw [dset, hdo]; rfl
                have Hst := Lib.hid hst; clear hst
                have Hdo := Lib.hid hdo; clear hdo
                go_wp2_with (at_builtin; refine wp_app1 _ rfl _ _ 35 rfl B 2 (.int .i64 0) 8 Tryz.underlying35 inf_int rfl _ _ _ rfl hown (.int .i64 y) _ rfl rfl (by omega) (by omega) (by omega) ?_; intro v1 w1 hown1 hgrow1 hblk1 hB1)
                go_roundw
                case rel => exact ⟨y + 1, by omega, by go_num, by rw [Hst.out, List.map_append, List.length_append]; exact hown1, hBn.trans (hB1.mono (Nat.le_refl _))⟩
                case measure => simp [intOf]; omega
        · obtain rfl : y = d := by omega
          obtain ⟨vs, bk, g1, g2, g3⟩ := HO.out
          have hBwo : Below wo.heap.size wo wm := hBn.mono (by omega)
          obtain ⟨bx1, hx1, hbx⟩ := own_F1 hown
          have hO4 := own_chg g1 (Chg.of_below (F := fun _ => False) hBwo) (fun _ _ h => h)
          obtain ⟨ra, rc, rfl, hrc1, hrc2⟩ := own_form hown
          have hlx := Nat.le_of_eq (hullR_len keys x)
          have hyd2 : decide ((y : Int) < m.d) = false := by simp; omega
          have G := Lib.hid (And.intro g1 (And.intro g2 g3)); clear g1 g2 g3
          have Hx1 := Lib.hid (And.intro hx1 hbx); clear hx1 hbx hown
          go_wp2_with (at_builtin; refine wp_app1 _ rfl _ _ 26 rfl W1.heap.size 35 (.slice none 0 0) 24 Tryz.underlying26 inf_ints rfl _ _ _ rfl hO4 (.slice ra (dset keys x y).length rc) _ rfl rfl (by omega) (by omega) (by omega) ?_; intro v1 w1 hown1 hgrow1 hblk1 hB1)
          go_roundw
          case rel => exact ⟨x + 1, by omega, by go_num, by rw [hullR, ← Hset.out x hxn]; exact Out2.push G.out.1 G.out.2.1 G.out.2.2 hzr hBwo Hx1.out.1 (fun hn => by have := Hx1.out.2 hn; omega) hown1 hgrow1 hblk1, (hB.trans (hBwo.mono hzr)).trans hB1⟩
          case measure => simp [intOf]; omega
    · obtain rfl : x = n := by omega
      have hfx := hO.f2
      have hlx := Nat.le_of_eq (hullR_len keys x)
      obtain ⟨oa, oc, rfl, ho1, ho2⟩ := hO.form
      have hzx : W.heap.size + 1 < W1.heap.size := hz01
      have hres : wo.heap[W.heap.size + 1]? = some (.cells #[.slice none 0 0] 155 (0, 0)) := heap_below Hc01.out.2.2.2 hB hzx
      have hrc := cell_of_block hres 0
      have hrf := frozen_of_block hres 0
      have hrs := cell_of_block (heap_setCell_self (off := 0) hres (.slice oa (hullR keys x).length oc)) 0
      have Hrs := Lib.hid hrs; clear hrs hres
      have Hfx := Lib.hid hfx; clear hfx
      go_wp2_with fail
      have hrs := Hrs.out
      simp at hrs
      refine bodyPost_ret (v := .agg #[.slice oa (hullR keys x).length oc]) (by simp [results, Tryz.results236, go_sem, hrs]) rfl ⟨_, rfl, ?_, ?_⟩
      · exact (F2.set Hfx.out hzx).mono (by omega)
      · have hbb := hB01.trans (hB.mono (by omega))
        exact by (repeat (first | (with_reducible refine Below.setCell ?_ ?_ _) | (with_reducible refine Below.alloc ?_ ?_ _) | (with_reducible refine Below.drew ?_) | (with_reducible refine below_drewN ?_ _) | (with_reducible exact Below.refl _ _) | (with_reducible assumption) | (with_reducible refine Below.trans ?_ (Below.mono (by with_reducible assumption) ?_)) | go_size))
theorem l04Opens_any {S S' : Nat → Prop} (u v : Value) (l : List (List Int)) (cuts : List Int) (W : World) (h : V2 S W u l) (hc : V1 S' W v cuts) (hl : cuts.length ≤ l.length) :
    Calls Tryz.prog 171 #[.agg #[u], v] W fun e' w' => e' = .returned (.bool (opensB l cuts)) ∧ Below W.heap.size W w' := by
  obtain ⟨a, c, rfl, hmx⟩ := h.form
  obtain ⟨a', c', rfl, hmx'⟩ := hc.form
  obtain ⟨r, hr⟩ : ∃ r, opensB l cuts = r := ⟨_, rfl⟩
  rw [hr]
  have Hr := Lib.hid hr; clear hr
  obtain ⟨W1, hW1, hB01, hz01, HZ01, hc01, hh01⟩ := box_facts W #[.slice a l.length c] 155
  have hV1 := h.below hB01
  have hC1 := hc.below hB01
  go_enter Tryz.func171, Tryz.ntmps171
  go_wp2_with fail
  rw [← hW1]
  have HW1 := Lib.hid hW1; clear hW1 hh01
  go_loopw [5] (fun i wr => ∃ k q : Nat, k ≤ cuts.length ∧ i = .int .i64 (k : Int) ∧ r = upAll (fun i => hasI (getl l i) (geti cuts i)) cuts.length k ∧ wr = W1.drewN q) (fun i _ => cuts.length - (intOf i).toNat)
  case atStart => exact ⟨0, 0, Nat.zero_le _, rfl, Hr.out.symm, rfl⟩
  case round =>
    obtain ⟨k, q, hk, rfl, hrem, rfl⟩ := hrel
    have Hm := Lib.hid hrem; clear hrem
    by_cases hkk : k < cuts.length
    · obtain ⟨b1, off1, rfl, _, hc1⟩ := hC1.cell hkk
      obtain ⟨b2, off2, a2, c2, rfl, _, hc2, hr2⟩ := hV1.cell (k := k) (by omega)
      cases hg : hasI (getl l k) (geti cuts k)
      · have HG := Lib.hid hg; clear hg
        go_wp2_with fail
        go_quiet ((go_at_call 161; first | exact quiet_same (l01Has_b _ _ _ _ _ HG.out (V1.drewN hr2)) | exact quiet_same0 (l01Has_b _ _ _ _ _ HG.out (V1.drewN hr2))))
        go_wp2_with fail
        go_ret
        exact ⟨ret_bool (by rw [Hm.out, upAll_step hkk, HG.out]; rfl), by repeat' first | refine below_drewN ?_ _ | exact hB01⟩
      · have HG := Lib.hid hg; clear hg
        go_wp2_with fail
        go_quiet ((go_at_call 161; first | exact quiet_same (l01Has_b _ _ _ _ _ HG.out (V1.drewN hr2)) | exact quiet_same0 (l01Has_b _ _ _ _ _ HG.out (V1.drewN hr2))))
        go_wp2_with fail
        go_roundw
        case rel => exact ⟨k + 1, _, by omega, by go_num, by rw [Hm.out, upAll_step hkk, HG.out]; rfl, by first | rfl | rw [World.drewN_drewN]⟩
        case measure => simp [intOf]; omega
    · obtain rfl : k = cuts.length := by omega
      go_wp2_with fail
      go_ret
      exact ⟨ret_bool (by rw [Hm.out, upAll_end]), below_drewN hB01 _⟩
theorem l04Opens_b {S S' : Nat → Prop} (u v : Value) (l : List (List Int)) (cuts : List Int) (W : World) (r : Bool) (hr : opensB l cuts = r) (h : V2 S W u l) (hc : V1 S' W v cuts) (hl : cuts.length ≤ l.length) :
    Calls Tryz.prog 171 #[.agg #[u], v] W fun e' w' => e' = .returned (.bool r) ∧ Below W.heap.size W w' := by subst hr; exact l04Opens_any u v l cuts W h hc hl
end Go.Proofs.YtikdbjaimcciiaaGreat
