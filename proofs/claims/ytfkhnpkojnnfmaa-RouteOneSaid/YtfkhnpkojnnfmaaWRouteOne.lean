/- RouteOne: with one part all keys go there; for every keys. -/
import Derived.Test.YtfkhnpkojnnfmaaRouteB
import Derived.Test.YtfkhnpkojnnfmaaRouteF
namespace Go.Proofs.Ytfkhnpkojnnfmaa
open Go Go.RowKit
set_option linter.unusedVariables false
set_option linter.unusedSimpArgs false
theorem rtSort_one (ks : List (List Nat)) (m : Nat) (hm : m ≤ ks.length) : ∃ r : List Int, rtSort 1 ks m = [r] ∧ r.length = m := by
  induction m with
  | zero => exact ⟨[], rfl, rfl⟩
  | succ m ih =>
    obtain ⟨r, hr, hl⟩ := ih (by omega)
    obtain ⟨k, hk⟩ : ∃ k, ks[m]? = some k := ⟨_, List.getElem?_eq_getElem (by omega)⟩
    have hp : (part (1 : Nat) k).toNat = 0 := by
      have := part_lt (p := ((1 : Nat) : Int)) (by omega) k
      omega
    refine ⟨r ++ [(m : Int)], ?_, by simp [hl]⟩
    rw [rtSort_at hk hp (x := r) (by rw [hr]; rfl), hr]
    rfl
theorem spread_one (ks : List (List Nat)) (m : Nat) (hm : m ≤ ks.length) : spread 1 ks m = 0 := by
  obtain ⟨r, hr, hl⟩ := rtSort_one ks m hm
  unfold spread lowTo highTo
  rw [hr]
  simp [hl]
set_option maxHeartbeats 2000000 in
set_option maxRecDepth 100000 in
theorem routeOne_walk (A : Option Addr) (len cap : Nat) (zss : List (List Int)) (w : World) (hz : zss.length = len ∧ len ≤ cap ∧ cap ≤ maxLen ∧ len * 24 ≤ 140737488351232 ∧ InII .u8 w A zss) :
    Calls Try.prog 6 #[.slice A len cap] w (RetB w (.bool true)) := by
  obtain ⟨hl, hlc, hcm, hby, hz⟩ := hz
  have hlb : len ≤ 140737488351232 := by omega
  obtain ⟨m, hm⟩ : ∃ m, min len 257 = m := ⟨_, rfl⟩
  have hm2 : m ≤ 257 := by omega
  have hml : (fewTo zss m).length = m := fewTo_len (by omega)
  have hok := fewTo_ok hz hm2
  clear hlc hcm hby
  have Hhl := Lib.hid hl
  have Hhz := Lib.hid hz
  have Hhm := Lib.hid hm
  have Hhml := Lib.hid hml
  have Hhok := Lib.hid hok
  clear hl hz hm hml hok
  by_cases h256 : 256 < m
  · have hr : Refuses 1 m 3 := .inr ⟨by decide, by decide, by decide, h256, rfl⟩
    have Hhr := Lib.hid hr
    clear hr
    go_enter Try.func6, Try.ntmps6
    go_wp2_with fail
    refine (works11 _).mono ?_
    rintro e w1 ⟨rfl, hw⟩
    dsimp only
    have hI := (Inv.refl w).grow hw
    clear hw
    have HhI := Lib.hid hI
    clear hI
    go_wp2_with fail
    refine (few_any HhI.out A len cap zss Hhl.out hlb Hhz.out).mono ?_
    rintro e w2 ⟨A', c', rfl, h2⟩
    rw [Hhm.out] at h2 ⊢
    dsimp only
    have H2 := Lib.hid h2
    clear h2 HhI
    go_wp2_with fail
    refine (rt_sort_no 1 3 hm2 H2.out Hhr.out).mono ?_
    rintro e w3 ⟨rfl, h3⟩
    dsimp only
    have H3 := Lib.hid h3
    clear h3 H2
    go_wp2_with fail
    refine (rt_spread_no 1 3 hm2 H3.out Hhr.out).mono ?_
    rintro e w4 ⟨rfl, h4⟩
    dsimp only
    have Hh4 := Lib.hid h4
    clear h4
    go_wp2
    go_ret
    exact ⟨rfl, Hh4.out.below⟩
  · have h2' : m ≤ 256 := by omega
    obtain ⟨r, hr1, hr2⟩ := rtSort_one (fewTo zss m) m (by rw [Hhml.out]; exact Nat.le_refl _)
    have hsp := spread_one (fewTo zss m) m (by rw [Hhml.out]; exact Nat.le_refl _)
    have hmm : ((m : Int) == (m : Int)) = true := by simp
    have Hhr1 := Lib.hid hr1
    have Hhr2 := Lib.hid hr2
    have Hhsp := Lib.hid hsp
    clear hr1 hr2 hsp
    go_enter Try.func6, Try.ntmps6
    go_wp2_with fail
    refine (works11 _).mono ?_
    rintro e w1 ⟨rfl, hw⟩
    dsimp only
    have hI := (Inv.refl w).grow hw
    clear hw
    have HhI := Lib.hid hI
    clear hI
    go_wp2_with fail
    refine (few_any HhI.out A len cap zss Hhl.out hlb Hhz.out).mono ?_
    rintro e w2 ⟨A', c', rfl, h2⟩
    rw [Hhm.out] at h2 ⊢
    dsimp only
    have H2 := Lib.hid h2
    clear h2 HhI
    go_wp2_with fail
    refine (rt_sort 1 (by decide) h2' Hhok.out H2.out).mono ?_
    rintro e w3 (⟨hs, g, rfl, h3⟩ | ⟨hs, rfl, h3⟩)
    · dsimp only
      have Hhs := Lib.hid hs
      clear hs
      have H3 := Lib.hid h3
      clear h3 H2
      as_aux_lemma =>
      go_wp2_with fail
      refine (rt_spread 1 (by decide) h2' Hhok.out H3.out.pull1).mono ?_
      rintro e w4 ⟨⟨_, rfl⟩ | ⟨hn, _⟩, h4⟩
      · rw [Hhsp.out]
        obtain ⟨B, d, hc, _, hd1, hd2⟩ := rows_at h4.pull1 (i := 0) (x := r) (by rw [Hhr1.out]; rfl)
        rw [Hhr2.out] at hc hd1
        unfold maxLen at hd2
        dsimp only
        have Hh4 := Lib.hid h4
        clear h4
        go_wp2
        go_ret
        exact ⟨rfl, Hh4.out.below⟩
      · exact absurd Hhs.out hn
    · dsimp only
      have Hhs := Lib.hid hs
      clear hs
      have H3 := Lib.hid h3
      clear h3 H2
      as_aux_lemma =>
      go_wp2_with fail
      refine (rt_spread 1 (by decide) h2' Hhok.out H3.out).mono ?_
      rintro e w4 ⟨⟨hn, _⟩ | ⟨_, rfl⟩, h4⟩
      · exact absurd hn Hhs.out
      · dsimp only
        have Hh4 := Lib.hid h4
        clear h4
        go_wp2
        go_ret
        exact ⟨rfl, Hh4.out.below⟩
end Go.Proofs.Ytfkhnpkojnnfmaa
