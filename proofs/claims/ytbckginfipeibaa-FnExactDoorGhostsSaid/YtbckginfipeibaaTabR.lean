/- The ghosts of all doors, as the reference counts them. No conditions. -/
import Derived.Test.YtbckginfipeibaaDoorR
namespace Go.Proofs.Ytbckginfipeibaa
open Go.RowKit
set_option linter.unusedVariables false
set_option linter.unusedSimpArgs false

def tabL (m : Mk) (t cuts : List (List Int)) (k : Nat) : List Int := (List.range k).map fun d => ((doorGh m t cuts d : Nat) : Int)
theorem tabL_len (m : Mk) (t cuts : List (List Int)) (k : Nat) : (tabL m t cuts k).length = k := by simp [tabL]
theorem tabL_succ (m : Mk) (t cuts : List (List Int)) (k : Nat) : tabL m t cuts (k + 1) = tabL m t cuts k ++ [((doorGh m t cuts k : Nat) : Int)] := by
  simp [tabL, List.range_succ]
def ghTabAns (m : Mk) (t cuts : List (List Int)) : List Int × Int :=
  if designC m t cuts ≠ 0 then ([], designC m t cuts) else (tabL m t cuts (getl t 0).length, 0)
theorem ghTabAns_len (m : Mk) (t cuts : List (List Int)) : (ghTabAns m t cuts).1.length ≤ 1048576 := by
  unfold ghTabAns
  split
  · simp
  · rename_i hp
    have := (design_fits (Classical.not_not.1 hp)).1.doors
    show (tabL m t cuts _).length ≤ _
    rw [tabL_len]; omega
theorem F1.nil2 {B : Nat} {w : World} : F1 B w (.slice none 0 0) [] := ⟨0, ⟨none, 0, rfl, Nat.le_refl _, Nat.zero_le _, fun hn => absurd rfl hn⟩, fun hn => absurd rfl hn⟩
section
variable {b0 : Nat} {cs : Array Value} {F : Nat → Prop} {wr w w' : World}
theorem gt_at (hlt : b0 < wr.heap.size) (hne : ¬ F b0) (h : ∀ o, wr.cell? ⟨b0, o, none⟩ = cs[o]?) (hc : Chg F wr w') : (∀ o, w'.cell? ⟨b0, o, none⟩ = cs[o]?) ∧ Chg F wr w' :=
  ⟨fun o => by rw [hc.cell hlt hne, h], hc⟩
theorem gt_chg (h : (∀ o, w.cell? ⟨b0, o, none⟩ = cs[o]?) ∧ Chg F wr w) : Chg F wr w := h.2
end
set_option maxRecDepth 100000 in
set_option maxHeartbeats 2000000 in
theorem GhostTableR_any {S S' : Nat → Prop} (m : Mk) (u v : Value) (t cuts : List (List Int)) (W : World) (h : V2 S W u t) (hc : V2 S' W v cuts) :
    Calls Try.prog 30 #[.agg #[.int .i64 m.c, .int .i64 m.d, .int .i64 m.s, .int .i64 m.e, .int .i64 m.l, u], v] W fun e' w' => ∃ v', e' = .returned (.tuple #[v', .int .i64 (ghTabAns m t cuts).2]) ∧ V1 (fun b => b < w'.heap.size) w' v' (ghTabAns m t cuts).1 ∧ Below W.heap.size W w' := by
  obtain ⟨i0, gi, gz0, gz1, gz2⟩ := info_parts inf_int
  obtain ⟨a, c, rfl, hmx⟩ := h.form
  obtain ⟨a', c', rfl, hmx'⟩ := hc.form
  obtain ⟨W1, hW1, hB01, hz01, HZ01, hc01, hh01⟩ := box_facts W #[.int .i64 m.c, .int .i64 m.d, .int .i64 m.s, .int .i64 m.e, .int .i64 m.l, .slice a t.length c] 34
  have hV1 := (h.below hB01).any
  have hC1 := (hc.below hB01).any
  have hcode := l21Code_any m _ _ t cuts W1 hV1 hC1
  by_cases hp : designC m t cuts = 0
  · rw [hp] at hcode
    have hf := (design_fits hp).1
    have hmc := mc_nat hf.ok
    have hdoors := hf.doors
    have hkl := keysOf_length hf.ok
    have hol := outsOf_length cuts (keysOf m)
    obtain ⟨locks, hlocks⟩ : ∃ x, x = locksTo m.c.toNat t cuts (getl t 0).length := ⟨_, rfl⟩
    obtain ⟨D, hD⟩ : ∃ D, (getl t 0).length = D := ⟨_, rfl⟩
    have hll : locks.length = D := by rw [hlocks, locksTo_len, hD]
    have hfin : ghTabAns m t cuts = (tabL m t cuts D, 0) := by unfold ghTabAns; rw [if_neg (by rw [hp]; decide), hD]
    rw [hfin]
    have hrows := hf.rows
    have hV0 := (h.below hB01).old
    have hC0 := (hc.below hB01).old
    obtain ⟨b0, off0, a0, c0, rfl, hb0, hcc0, hr0⟩ := hV0.cell (k := 0) (by omega)
    simp only [Nat.add_zero] at hcc0
    rw [hD] at hcc0 hdoors
    have hso := fun d => lock_sets (n := m.c.toNat) (d := d) hf hmc
    have hsl := fun d => (show (((lockR m.c.toNat t cuts d).length : Nat) : Int) = m.c by rw [lockR_len]; exact hmc)
    have hgl := fun d => ghostsN_le m hf.ok (lockR m.c.toNat t cuts d) cuts
    have Hf := Lib.hid (And.intro hf (And.intro hmc (And.intro hD (And.intro hso (And.intro hsl (And.intro hf.ok hgl)))))); clear hso hsl hf hmc hgl hr0 hol hkl
    have Hp := Lib.hid (And.intro hp (And.intro hfin (And.intro hlocks hll))); clear hp hfin hlocks hll hD
    have Hcode := Lib.hid hcode; clear hcode
    go_enter Try.func30, Try.ntmps30
    go_wp2_with fail
    rw [← hW1]
    refine Hcode.out.mono ?_
    rintro e' w2 ⟨rfl, hb2⟩
    have hz2 : W.heap.size < w2.heap.size := by have := hb2.size; omega
    have hown0 := own_lit0 w2 w2.heap.size 2 1 (Nat.le_refl _)
    have hbA : ∀ T, Below w2.heap.size w2 (w2.alloc (.cells #[] T)) := fun T => (Below.refl _ _).alloc (Nat.le_refl _) _
    have hccw := cell_keep hcc0 (hb2.block _ (lt_of_cell hcc0))
    have Hc01 := Lib.hid (And.intro hc01 hcc0); clear hc01 hcc0
    clear hh01
    go_wp2_with fail
    go_loopw [7, 8] (fun ou ix wr => ∃ k : Nat, k ≤ D ∧ ix = .int .i64 (k : Int) ∧ wr.ownsRow w2.heap.size 2 1 ou k ((tabL m t cuts k).map (Value.int .i64)) ∧ Below w2.heap.size w2 wr) (fun _ ix _ => D - (intOf ix).toNat)
    case atStart => exact ⟨0, Nat.zero_le _, rfl, hown0, hbA _⟩
    case round =>
      obtain ⟨k, hk, rfl, hown, hB⟩ := hrel
      have hzr := hB.size
      obtain ⟨oa, oc, rfl, ho1, ho2⟩ := own_form hown
      have hoF : ∀ b, b < W1.heap.size → ¬ (Value.slice oa k oc).ownBlock = some b := fun b hb e => by have := (hown.lt b e).1; have := hb2.size; omega
      have hB1 := hb2.trans (hB.mono hb2.size)
      have hxr : ∀ o, wr.cell? ⟨W.heap.size, o, none⟩ = (#[.int .i64 m.c, .int .i64 m.d, .int .i64 m.s, .int .i64 m.e, .int .i64 m.l, .slice (some ⟨b0, off0, none⟩) t.length c] : Array Value)[o]? := fun o => by rw [(bcell hB1).1 _ _ hz01, Hc01.out.1]
      have hcr := cell_keep Hc01.out.2 (hB1.block _ (lt_of_cell Hc01.out.2))
      by_cases hkk : k < D
      · have hst := tabL_succ m t cuts k
        have hgl := Hf.out.2.2.2.2.2.2 k
        obtain ⟨N, hN⟩ : ∃ N, doorGh m t cuts k = N := ⟨_, rfl⟩
        have hN' : ghostsN m (lockR m.c.toNat t cuts k) cuts = N := hN
        rw [hN] at hst
        rw [hN'] at hgl
        have Hst := Lib.hid (And.intro hst (And.intro hN hN')); clear hst hN hN'
        have hVr := hV0.below hB1
        have hCr := hC0.below hB1
        have hzw : W.heap.size < wr.heap.size := by omega
        have hne := hoF _ hz01
        go_wp2_with fail
        go_region_held3 (fun w' => (∀ o, w'.cell? ⟨W.heap.size, o, none⟩ = (#[.int .i64 m.c, .int .i64 m.d, .int .i64 m.s, .int .i64 m.e, .int .i64 m.l, .slice (some ⟨b0, off0, none⟩) t.length c] : Array Value)[o]?) ∧ Chg (fun b => (Value.slice oa k oc).ownBlock = some b) wr w') (first | exact gt_at hzw hne hxr (Chg.refl _ _).drew | exact gt_at hzw hne hxr ((gt_chg (by assumption)).then_below (by assumption)) | exact gt_at hzw hne hxr ((gt_chg (by assumption)).alloc _) | exact gt_at hzw hne hxr ((gt_chg (by assumption)).grown hgrow (fun k hk => .inl hk)) | assumption) (first | (go_at_call 66; refine (l15Lock_any (S := fun b => b < W1.heap.size) (S' := fun b => b < W1.heap.size) m _ _ t cuts k m.c.toNat _ Hf.out.1 Hf.out.2.1 (by rw [Hf.out.2.2.1]; exact hkk) (hVr.mono (fun _ h _ => h) ((gt_chg (by assumption)).keep hoF)) (hCr.mono (fun _ h _ => h) ((gt_chg (by assumption)).keep hoF))).mono ?_; rintro e' wK ⟨kv, rfl, hFK, hb⟩; have hB1w : Below wr.heap.size wr wK := (by refine Below.trans ?_ (hb.mono ?_) <;> first | go_grown | (simp; done))) | (go_at_call 65; refine (l14Ghosts_any (S' := fun b => b < W1.heap.size) m Hf.out.2.2.2.2.2.1 _ (Hf.out.2.2.2.2.1 k) (Hf.out.2.2.2.1 k) _ _ cuts _ hFK.v2.any (hCr.mono (fun _ h _ => h) ((gt_chg (by assumption)).keep hoF))).mono ?_; rintro e' wG ⟨ga, gc, rfl, hb3⟩; rw [Hst.out.2.2]; have hB2w : Below wr.heap.size wr wG := hB1w.trans (hb3.mono hB1w.size); have hownG := own_keep hown hB2w) | (refine step_append_lies _ (by rfl) _ _ _ (by rfl) w2.heap.size 2 i0 _ 1 8 Try.underlying29 gi gz0 gz1 gz2 rfl (by omega) _ k _ (by rfl) (hownG.alloc _) ⟨_, 0, none⟩ 1 1 [.int .i64 (N : Int)] (by rfl) (by rfl) (World.news_of_block (heap_alloc_new _ _)) (by simp [Value.oneCell']) (by omega) (by unfold maxLen; omega) (by omega) (by have := hB2w.size; simp; omega) _ rfl ?_; intro gg cap w1 hown2 hgrow hat hlt))
        all_goals
          have hBz : Below w2.heap.size w2 w1 := ((hB.trans (hB2w.mono hzr)).alloc (by have := hB2w.size; omega) _).grown hgrow (by have := hB2w.size; simp; omega) (own_lo hown (Nat.le_refl _))
          have Hfin := Lib.hid (And.intro hown2 hBz); clear hown2 hBz hown hownG
          go_wp2_with fail
          go_roundw
          case rel => exact ⟨k + 1, by omega, by go_num, by rw [Hst.out.1, List.map_append]; exact Hfin.out.1, Hfin.out.2⟩
          case measure => simp [intOf]; omega
      · obtain rfl : k = D := by omega
        have Hown := Lib.hid hown; clear hown
        go_wp2_with fail
        go_ret2
        exact ⟨_, rfl, (own_F1 (own_base (B' := W.heap.size) Hown.out (by omega))).v1.old, hB01.trans (hB1.mono (by omega))⟩
  · have hfin : ghTabAns m t cuts = ([], designC m t cuts) := by unfold ghTabAns; rw [if_pos hp]; (try rfl)
    have e1 : (designC m t cuts != 0) = true := by simp [hp]
    rw [hfin]
    have Hp := Lib.hid (And.intro hp hfin); clear hp hfin
    generalize designC m t cuts = pc at *
    go_enter Try.func30, Try.ntmps30
    go_wp2_with fail
    rw [← hW1]
    refine hcode.mono ?_
    rintro e' w2 ⟨rfl, hb2⟩
    clear hc01 hh01
    go_wp2_with fail
    go_ret2
    exact ⟨_, rfl, (F1.nil2 (B := 0)).v1.old, hB01.trans (hb2.mono (by omega))⟩
end Go.Proofs.Ytbckginfipeibaa
