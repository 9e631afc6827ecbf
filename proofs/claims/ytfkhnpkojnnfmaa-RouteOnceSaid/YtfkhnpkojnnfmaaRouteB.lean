/- Sort and Spread where they refuse. -/
import Derived.Test.YtfkhnpkojnnfmaaRouteX
namespace Go.Proofs.Ytfkhnpkojnnfmaa
open Go Go.RowKit
set_option linter.unusedVariables false
set_option linter.unusedSimpArgs false
/-- Sort refuses, with E. -/
def Refuses (p : Int) (n : Nat) (E : Int) : Prop := (rtMay p = 2 ∧ (p < 1 ∨ 8 < p) ∧ E = 2) ∨ (rtMay p = 0 ∧ 1 ≤ p ∧ p ≤ 8 ∧ 256 < n ∧ E = 3)
theorem Refuses.ne {p : Int} {n : Nat} {E : Int} (h : Refuses p n E) : E = 2 ∨ E = 3 := by
  rcases h with ⟨_, _, h⟩ | ⟨_, _, _, _, h⟩ <;> simp [h]
theorem rt_sort_no {W w : World} {Rs : List Asn} {A : Option Addr} {n c : Nat} (p E : Int) (hn : n ≤ 257) (h : Inv W w Rs) (hr : Refuses p n E) :
    Calls Try.prog 10 #[.int .i64 p, .slice A n c] w fun e w' => e = .returned (.tuple #[.slice none 0 0, .int .i64 E]) ∧ Inv W w' Rs := by
  rcases hr with ⟨hb, _, rfl⟩ | ⟨hb, _, _, hm, rfl⟩
  · exact rt_sort_bad (ks := []) p hn h hb
  · exact rt_sort_many (ks := []) p hn h hb hm
set_option maxHeartbeats 400000 in
theorem rt_spread_no {W w : World} {Rs : List Asn} {A : Option Addr} {n c : Nat} (p E : Int) (hn : n ≤ 257) (h : Inv W w Rs) (hr : Refuses p n E) :
    Calls Try.prog 17 #[.int .i64 p, .slice A n c] w fun e w' => e = .returned (.tuple #[.int .i64 0, .int .i64 E]) ∧ Inv W w' Rs := by
  have hs := rt_sort_no (A := A) (c := c) p E hn h hr
  rcases hr.ne with rfl | rfl
  all_goals
    have Hhs := Lib.hid hs
    clear hs
    clear h hr
    go_enter Try.func17, Try.ntmps17
    go_wp2_with fail
    refine Hhs.out.mono ?_
    rintro e w1 ⟨rfl, h1⟩
    dsimp only
    have Hh1 := Lib.hid h1
    clear h1
    go_wp2
    go_ret2
    exact ⟨rfl, Hh1.out⟩
set_option maxHeartbeats 400000 in
theorem rt_rsort_no {W w : World} {Rs : List Asn} {A : Option Addr} {n c : Nat} (p E : Int) (hn : n ≤ 257) (h : Inv W w Rs) (hr : Refuses p n E) :
    Calls Try.prog 16 #[.int .i64 p, .slice A n c] w fun e w' => e = .returned (.tuple #[.slice none 0 0, .int .i64 E]) ∧ Inv W w' Rs := by
  have Hh := Lib.hid h
  clear h
  rcases hr with ⟨_, hp | hp, rfl⟩ | ⟨_, hp1, hp2, hm, rfl⟩
  · go_enter Try.func16, Try.ntmps16
    go_wp2
    go_ret2
    exact ⟨rfl, Hh.out⟩
  · have hp' : ¬ p < 1 := by omega
    go_enter Try.func16, Try.ntmps16
    go_wp2
    go_ret2
    exact ⟨rfl, Hh.out⟩
  · have hp' : ¬ p < 1 := by omega
    go_enter Try.func16, Try.ntmps16
    go_wp2
    go_ret2
    exact ⟨rfl, Hh.out⟩
set_option maxHeartbeats 400000 in
theorem rt_rspread_no {W w : World} {Rs : List Asn} {A : Option Addr} {n c : Nat} (p E : Int) (hn : n ≤ 257) (h : Inv W w Rs) (hr : Refuses p n E) :
    Calls Try.prog 18 #[.int .i64 p, .slice A n c] w fun e w' => e = .returned (.tuple #[.int .i64 0, .int .i64 E]) ∧ Inv W w' Rs := by
  have hs := rt_rsort_no (A := A) (c := c) p E hn h hr
  rcases hr.ne with rfl | rfl
  all_goals
    have Hhs := Lib.hid hs
    clear hs
    clear h hr
    go_enter Try.func18, Try.ntmps18
    go_wp2_with fail
    refine Hhs.out.mono ?_
    rintro e w1 ⟨rfl, h1⟩
    dsimp only
    have Hh1 := Lib.hid h1
    clear h1
    go_wp2
    go_ret2
    exact ⟨rfl, Hh1.out⟩
theorem refuses_or (p : Int) (n : Nat) : (∃ E, Refuses p n E) ∨ (rtMay p = 0 ∧ n ≤ 256 ∧ ∃ q : Nat, p = q) := by
  rcases rtMay_or p with h | ⟨h, h2⟩
  · obtain ⟨h1, h2⟩ := rtMay_ok h
    by_cases hn : 256 < n
    · exact .inl ⟨3, .inr ⟨h, h1, h2, hn, rfl⟩⟩
    · exact .inr ⟨h, by omega, p.toNat, by omega⟩
  · exact .inl ⟨2, .inl ⟨h, h2, rfl⟩⟩
end Go.Proofs.Ytfkhnpkojnnfmaa
