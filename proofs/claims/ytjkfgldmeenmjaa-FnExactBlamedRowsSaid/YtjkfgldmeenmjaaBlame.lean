/- The blamed rows: both answers. No conditions. -/
import Derived.Test.YtjkfgldmeenmjaaMBlameP
import Derived.Test.YtjkfgldmeenmjaaShortR
import Derived.Test.YtjkfgldmeenmjaaRowsR
namespace Go.Proofs.Ytjkfgldmeenmjaa
open Go.RowKit
set_option linter.unusedVariables false
set_option linter.unusedSimpArgs false

set_option maxRecDepth 100000 in
set_option maxHeartbeats 1000000 in
theorem BlamedRows_any {S S' : Nat → Prop} (m : Mk) (u v : Value) (t cuts : List (List Int)) (W : World) (h : V2 S W u t) (hc : V2 S' W v cuts) :
    Calls Try.prog 14 #[.agg #[.int .i64 m.c, .int .i64 m.d, .int .i64 m.s, .int .i64 m.e, .int .i64 m.l, u], v] W fun e' w' => ∃ v', e' = .returned (.tuple #[v', .int .i64 (blameAns m t cuts).2]) ∧ F1 W.heap.size w' v' (blameAns m t cuts).1 ∧ Below W.heap.size W w' := by
  obtain ⟨a, c, rfl, hmx⟩ := h.form
  obtain ⟨a', c', rfl, hmx'⟩ := hc.form
  obtain ⟨W1, hW1, hB01, hz01, HZ01, hc01, hh01⟩ := box_facts W #[.int .i64 m.c, .int .i64 m.d, .int .i64 m.s, .int .i64 m.e, .int .i64 m.l, .slice a t.length c] 34
  have hV1 : V2 (fun _ => True) W1 (.slice a t.length c) t := (h.below hB01).mono (fun _ _ _ => trivial) (fun _ _ _ => rfl)
  have hC1 : V2 (fun _ => True) W1 (.slice a' cuts.length c') cuts := (hc.below hB01).mono (fun _ _ _ => trivial) (fun _ _ _ => rfl)
  have hpf := PartFault_any m _ _ t cuts W1 hV1 hC1
  by_cases hp : (pfAns m t cuts).2.2 = 0
  · obtain ⟨hpc, i, d, hi, hd, he, ho⟩ := pf_ok hp
    rw [he] at hpf
    have hf := fits_of hpc
    have hmk := Mk.ok_iff.1 hf.ok
    obtain ⟨n, hn, hn6, hn0⟩ : ∃ n : Nat, m.c.toNat = n ∧ n ≤ 6 ∧ (n : Int) = m.c := ⟨_, rfl, by omega, by omega⟩
    rw [hn] at ho
    have hlen := reasRows_len t cuts i d n
    have hi16 : cuts.length ≤ 16 := by have := hf.few; have := hf.rows; omega
    have hRok := reasRows_ok (t := t) (cuts := cuts) (key := i) (door := d) (n := n) hi16
    obtain ⟨b, hb⟩ := false_best (N := (reasRows t cuts i d n).length) (by have := hf.lens i hi; omega) ho
    have hfin : blameAns m t cuts = (diffI (b ++ [(i : Int)]), 0) := by unfold blameAns; rw [he, if_neg (fun h => h rfl)]; simp only [Int.toNat_natCast, hn, hb, Option.getD_some]
    rw [hfin]
    obtain ⟨hdig, hbl⟩ := allR_dig hRok (bestW_some hb).1
    have hb6 : b.length ≤ 6 := by omega
    have hbne : b ≠ [] := by intro e; rw [e] at hbl; simp at hbl; omega
    have hnb : numB (b ++ [(i : Int)]) = true := numB_iff.2 ⟨by simp; omega, fun x hx => by
      rcases List.mem_append.1 hx with hx | hx
      · have := hdig x hx; omega
      · obtain rfl := List.mem_singleton.1 hx; omega⟩
    have hlb : (b ++ [(i : Int)]).length ≤ 1048576 := by simp; omega
    have hibs : i ≤ 1000 := by omega
    have hsr := fun w (hbw : Below W1.heap.size W1 w) => shortReason_any m (.slice a t.length c) (.slice a' cuts.length c') t cuts i d n w hf hi hd hn0 hRok (hV1.below hbw) (hC1.below hbw)
    simp only [hb] at hsr
    have H := Lib.hid (And.intro hpf (And.intro hsr (And.intro hb (And.intro hf (And.intro hRok (And.intro hlen (And.intro hbne (And.intro hlb (And.intro hfin (And.intro hnb he)))))))))); clear hpf hsr hb hf hRok hlen hfin hp hpc hmk hbl hdig hbne hlb hnb he ho hd hi hi16
    go_enter Try.func14, Try.ntmps14
    go_wp2_with fail
    rw [← hW1]
    refine H.out.1.mono ?_
    rintro e' w2 ⟨rfl, hb2⟩
    have hx2 : ∀ o, w2.cell? ⟨W.heap.size, o, none⟩ = (#[.int .i64 m.c, .int .i64 m.d, .int .i64 m.s, .int .i64 m.e, .int .i64 m.l, .slice a t.length c] : Array Value)[o]? := fun o => by rw [(bcell hb2).1 _ _ hz01, hc01]
    have hz2 := hb2.size
    clear hc01 hh01
    have HW1 := Lib.hid hW1; clear hW1
    go_wp2_with fail
    refine (H.out.2.1 _ hb2).mono ?_
    rintro e' w3 ⟨v3, l3, rfl, ⟨hF, _⟩, hb3⟩
    have hown := hF.2 H.out.2.2.2.2.2.2.1
    obtain ⟨a3, c3, rfl, h31, h32⟩ := own_form hown
    have hz3 := hb3.size
    have hBz3 := hB01.trans ((hb2.trans (hb3.mono hz2)).mono (by omega))
    unfold maxLen at h32
    clear hx2 hF
    have hown := own_base hown hz2
    go_wp2_with (at_builtin; refine wp_app1 _ rfl _ _ 29 rfl W1.heap.size 2 (.int .i64 0) 8 Try.underlying29 inf_int rfl _ _ _ rfl hown (.int .i64 (i : Int)) _ rfl rfl (by omega) (by omega) (by omega) ?_; intro v1 w1 hown1 hgrow1 hblk1 hB1)
    have hV4 := own_V1 (l := b ++ [(i : Int)]) (by simpa using hown1)
    obtain ⟨a4, c4, rfl, _, _⟩ := own_form hown1
    have hBz4 := hBz3.trans (hB1.mono (by omega))
    have HG := Lib.hid (And.intro hV4 hBz4); clear hV4 hBz4 hown hown1 hgrow1 hblk1 hB1
    refine (rowsOf_any _ (b ++ [(i : Int)]) _ HG.out.1 H.out.2.2.2.2.2.2.2.1).mono ?_
    rintro e' w5 ⟨v5, rfl, hF5, hb5⟩
    have hz5 := HG.out.2.size
    have HF5 := Lib.hid (And.intro (hF5.mono hz5) (HG.out.2.trans (hb5.mono hz5))); clear hF5
    go_wp2_with fail
    go_ret2
    exact ⟨_, rfl, HF5.out.1, HF5.out.2⟩
  · have hfin : blameAns m t cuts = ([], (pfAns m t cuts).2.2) := by unfold blameAns; rw [if_pos hp]
    have e1 : ((pfAns m t cuts).2.2 != 0) = true := by simp [hp]
    rw [hfin]
    have Hp := Lib.hid hp; clear hp hfin
    generalize (pfAns m t cuts).2.2 = pc at *
    generalize (pfAns m t cuts).2.1 = pd at *
    generalize (pfAns m t cuts).1 = pk at *
    go_enter Try.func14, Try.ntmps14
    go_wp2_with fail
    rw [← hW1]
    refine hpf.mono ?_
    rintro e' w2 ⟨rfl, hb2⟩
    clear hc01 hh01
    go_wp2_with fail
    go_ret2
    exact ⟨_, rfl, F1.nil4, hB01.trans (hb2.mono (by omega))⟩
set_option maxRecDepth 100000 in
set_option maxHeartbeats 1000000 in
theorem BlamedRowsR_any {S S' : Nat → Prop} (m : Mk) (u v : Value) (t cuts : List (List Int)) (W : World) (h : V2 S W u t) (hc : V2 S' W v cuts) :
    Calls Try.prog 11 #[.agg #[.int .i64 m.c, .int .i64 m.d, .int .i64 m.s, .int .i64 m.e, .int .i64 m.l, u], v] W fun e' w' => ∃ v', e' = .returned (.tuple #[v', .int .i64 (blameAns m t cuts).2]) ∧ V1 (fun b => b < w'.heap.size) w' v' (blameAns m t cuts).1 ∧ Below W.heap.size W w' := by
  obtain ⟨a, c, rfl, hmx⟩ := h.form
  obtain ⟨a', c', rfl, hmx'⟩ := hc.form
  obtain ⟨W1, hW1, hB01, hz01, HZ01, hc01, hh01⟩ := box_facts W #[.int .i64 m.c, .int .i64 m.d, .int .i64 m.s, .int .i64 m.e, .int .i64 m.l, .slice a t.length c] 34
  have hV1 : V2 (fun _ => True) W1 (.slice a t.length c) t := (h.below hB01).mono (fun _ _ _ => trivial) (fun _ _ _ => rfl)
  have hC1 : V2 (fun _ => True) W1 (.slice a' cuts.length c') cuts := (hc.below hB01).mono (fun _ _ _ => trivial) (fun _ _ _ => rfl)
  have hpf := PartFaultR_any m _ _ t cuts W1 hV1 hC1
  by_cases hp : (pfAns m t cuts).2.2 = 0
  · obtain ⟨hpc, i, d, hi, hd, he, ho⟩ := pf_ok hp
    rw [he] at hpf
    have hf := fits_of hpc
    have hmk := Mk.ok_iff.1 hf.ok
    obtain ⟨n, hn, hn6, hn0⟩ : ∃ n : Nat, m.c.toNat = n ∧ n ≤ 6 ∧ (n : Int) = m.c := ⟨_, rfl, by omega, by omega⟩
    rw [hn] at ho
    have hlen := reasRows_len t cuts i d n
    have hi16 : cuts.length ≤ 16 := by have := hf.few; have := hf.rows; omega
    have hRok := reasRows_ok (t := t) (cuts := cuts) (key := i) (door := d) (n := n) hi16
    obtain ⟨b, hb⟩ := false_best (N := (reasRows t cuts i d n).length) (by have := hf.lens i hi; omega) ho
    have hfin : blameAns m t cuts = (diffI (b ++ [(i : Int)]), 0) := by unfold blameAns; rw [he, if_neg (fun h => h rfl)]; simp only [Int.toNat_natCast, hn, hb, Option.getD_some]
    rw [hfin]
    obtain ⟨hdig, hbl⟩ := allR_dig hRok (bestW_some hb).1
    have hb6 : b.length ≤ 6 := by omega
    have hbne : b ≠ [] := by intro e; rw [e] at hbl; simp at hbl; omega
    have hnb : numB (b ++ [(i : Int)]) = true := numB_iff.2 ⟨by simp; omega, fun x hx => by
      rcases List.mem_append.1 hx with hx | hx
      · have := hdig x hx; omega
      · obtain rfl := List.mem_singleton.1 hx; omega⟩
    have hlb : (b ++ [(i : Int)]).length ≤ 1048576 := by simp; omega
    have hibs : i ≤ 1000 := by omega
    have hrw := fun w (hbw : Below W1.heap.size W1 w) => l18Rows_any m (.slice a t.length c) (.slice a' cuts.length c') t cuts i d n w hf hi hd hn0 (hV1.below hbw) (hC1.below hbw)
    obtain ⟨rows, hrows⟩ : ∃ r, reasRows t cuts i d n = r := ⟨_, rfl⟩
    rw [hrows] at hRok hlen hb
    simp only [hrows] at hrw
    have hls := l18Short_any rows hRok (by omega) rows.length
    have hext : extR rows [] = allR rows := by unfold extR; simp
    have H := Lib.hid (And.intro hpf (And.intro hrw (And.intro hb (And.intro hf (And.intro hRok (And.intro hlen (And.intro hbne (And.intro hnb (And.intro hls (And.intro hext (And.intro hrows (And.intro hfin he)))))))))))); clear hpf hrw hb hf hRok hlen hfin hp hpc hmk hbl hdig hbne hlb hnb he ho hd hi hi16 hls hext hrows
    go_enter Try.func11, Try.ntmps11
    go_wp2_with fail
    rw [← hW1]
    refine H.out.1.mono ?_
    rintro e' w2 ⟨rfl, hb2⟩
    have hx2 : ∀ o, w2.cell? ⟨W.heap.size, o, none⟩ = (#[.int .i64 m.c, .int .i64 m.d, .int .i64 m.s, .int .i64 m.e, .int .i64 m.l, .slice a t.length c] : Array Value)[o]? := fun o => by rw [(bcell hb2).1 _ _ hz01, hc01]
    have hz2 := hb2.size
    clear hc01 hh01
    have HW1 := Lib.hid hW1; clear hW1
    go_wp2_with fail
    refine (H.out.2.1 _ hb2).mono ?_
    rintro e' w3 ⟨v3, rfl, hF3, hb3⟩
    obtain ⟨a3, c3, rfl, _⟩ := hF3.v2.form
    clear hx2
    go_wp2_with fail
    refine (H.out.2.2.2.2.2.2.2.2.1 (fun _ => True) _ _ (.slice none 0 0) [] w3 hF3.v2 ⟨none, 0, rfl, Nat.le_refl _, Nat.zero_le _, fun k hk => by simp at hk⟩ (fun _ => .inl rfl) (by simp) (fun z hz => by cases hz)).mono ?_
    rintro e' w4 ⟨v4, he4, hv4, hb4⟩
    rw [H.out.2.2.2.2.2.2.2.2.2.1, H.out.2.2.1] at he4 hv4
    simp only [Option.isSome_none, Option.isSome_some, Option.getD_none, Option.getD_some] at he4 hv4
    subst he4
    obtain ⟨a4, c4, rfl, _⟩ := hv4.form
    have hBz := hB01.trans ((hb2.trans ((hb3.trans (hb4.mono hb3.size)).mono hz2)).mono (by omega))
    have hzz := hBz.size
    have Hv4 := Lib.hid hv4.any; clear hv4 hF3
    go_wp2_with fail
    refine (l01Own_any _ b _ Hv4.out (fun e => absurd e H.out.2.2.2.2.2.2.1) (by omega)).mono ?_
    rintro e' w5 ⟨v5, rfl, hown, hb5⟩
    have hBz5 := hBz.trans (hb5.mono hzz)
    obtain ⟨a5, c5, rfl, h51, h52⟩ := own_form hown
    have hz5 := hb5.size
    go_wp2_with (at_builtin; refine wp_app1 _ rfl _ _ 29 rfl w4.heap.size 2 (.int .i64 0) 8 Try.underlying29 inf_int rfl _ _ _ rfl hown (.int .i64 (i : Int)) _ rfl rfl (by omega) (by omega) (by omega) ?_; intro v1 w1 hown1 hgrow1 hblk1 hB1)
    have hV6 := own_V1 (l := b ++ [(i : Int)]) (by simpa using hown1)
    obtain ⟨a6, c6, rfl, _, _⟩ := own_form hown1
    have hBz6 := hBz5.trans (hB1.mono (by omega))
    have HG := Lib.hid (And.intro hV6 hBz6); clear hV6 hBz6 hown hown1 hgrow1 hblk1 hB1
    refine (l18Different_any _ (b ++ [(i : Int)]) _ HG.out.1 H.out.2.2.2.2.2.2.2.1).mono ?_
    rintro e' w7 ⟨v7, rfl, hF7, hb7⟩
    have HF7 := Lib.hid (And.intro hF7.v1.old (HG.out.2.trans (hb7.mono HG.out.2.size))); clear hF7
    go_wp2_with fail
    go_ret2
    exact ⟨_, rfl, HF7.out.1, HF7.out.2⟩
  · have hfin : blameAns m t cuts = ([], (pfAns m t cuts).2.2) := by unfold blameAns; rw [if_pos hp]
    have e1 : ((pfAns m t cuts).2.2 != 0) = true := by simp [hp]
    rw [hfin]
    have Hp := Lib.hid hp; clear hp hfin
    generalize (pfAns m t cuts).2.2 = pc at *
    generalize (pfAns m t cuts).2.1 = pd at *
    generalize (pfAns m t cuts).1 = pk at *
    go_enter Try.func11, Try.ntmps11
    go_wp2_with fail
    rw [← hW1]
    refine hpf.mono ?_
    rintro e' w2 ⟨rfl, hb2⟩
    clear hc01 hh01
    go_wp2_with fail
    go_ret2
    exact ⟨_, rfl, (F1.nil4 (B := 0)).v1.old, hB01.trans (hb2.mono (by omega))⟩
end Go.Proofs.Ytjkfgldmeenmjaa
