/- RouteKeys: any key's part, and whether two go to one, is as the document says, or refused; equal keys do; for every number of parts and two keys. -/
import Derived.Test.YtfkhnpkojnnfmaaRoute
import Derived.Test.YtfkhnpkojnnfmaaRouteF
import Derived.Test.YtfkhnpkojnnfmaaRouteX
namespace Go.Proofs.Ytfkhnpkojnnfmaa
open Go Go.RowKit
set_option linter.unusedVariables false
set_option linter.unusedSimpArgs false
theorem rt_pair (p : Int) (a b : List Nat) : (rtOf p a = (0, 2) ∧ rtOf p b = (0, 2)) ∨ (((rtOf p a).2 = 0 ∨ (rtOf p a).2 = 3) ∧ ((rtOf p b).2 = 0 ∨ (rtOf p b).2 = 3)) := by
  rcases rtMay_or p with h | ⟨h, _⟩
  · refine .inr ⟨?_, ?_⟩
    · by_cases hl : 64 < a.length
      · rw [rtOf_long h hl]; exact .inr rfl
      · rw [rtOf_in h hl]; exact .inl rfl
    · by_cases hl : 64 < b.length
      · rw [rtOf_long h hl]; exact .inr rfl
      · rw [rtOf_in h hl]; exact .inl rfl
  · exact .inl ⟨rtOf_bad h a, rtOf_bad h b⟩
theorem rt_same_of {p : Int} {a b : List Nat} {x y e f : Int} (h1 : rtOf p a = (x, e)) (h2 : rtOf p b = (y, f)) : rtSame p a b = if e ≠ 0 ∨ f ≠ 0 then (false, max e f) else (x == y, 0) := by
  unfold rtSame; rw [h1, h2]
set_option maxHeartbeats 2000000 in
set_option maxRecDepth 100000 in
theorem keys_of (p : Int) (A B : Option Addr) (la ca lb cb na nb : Nat) (ka kb : List Nat) (w : World) (x y E F : Int) (sv tv : Bool) (S T : Int) (hna : ka.length = na) (hnb : kb.length = nb) (hla : la ≤ ca) (hca : ca ≤ 9223372036854775807) (hlb : lb ≤ cb) (hcb : cb ≤ 9223372036854775807)
    (hma : (if (65 : Int) < (la : Int) then (65 : Int) else (la : Int)) = na) (hmb : (if (65 : Int) < (lb : Int) then (65 : Int) else (lb : Int)) = nb) (hsa : na ≤ 65) (hsb : nb ≤ 65) (hsa2 : na ≤ la) (hsb2 : nb ≤ lb)
    (ha : RdB w A ka) (hb : RdB w B kb) (h1 : rtOf p ka = (x, E)) (h2 : rtOf p kb = (y, F)) (h3 : rtSame p ka kb = (sv, S)) (h4 : rtSame p ka ka = (tv, T))
    (hc : (E = 0 ∧ F = 0 ∧ sv = (x == y) ∧ S = 0 ∧ tv = true ∧ T = 0) ∨ (E ≠ 0 ∧ sv = false ∧ S = max E F ∧ (F = 0 ∨ F = 2 ∨ F = 3) ∧ (E = 2 ∨ E = 3)) ∨ (E = 0 ∧ F = 3 ∧ sv = false ∧ S = 3 ∧ tv = true ∧ T = 0)) :
    Calls Try.prog 4 #[.int .i64 p, .slice A la ca, .slice B lb cb] w (RetB w (.bool true)) := by
  have HI := Lib.hid (Inv.refl w)
  have hxx : (x == x) = true := by simp
  have Hhna := Lib.hid hna
  have Hhnb := Lib.hid hnb
  have Hha := Lib.hid ha
  have Hhb := Lib.hid hb
  have Hh1 := Lib.hid h1
  have Hh2 := Lib.hid h2
  have Hh3 := Lib.hid h3
  have Hh4 := Lib.hid h4
  have Hhc := Lib.hid hc
  clear hna hnb ha hb h1 h2 h3 h4 hc
  go_enter Try.func4, Try.ntmps4
  go_wp2_with fail
  go_quiet (fail)
  clear hma hmb
  have hI := HI.out.drewN nq
  clear HI
  have HI := Lib.hid hI
  clear hI
  go_wp2_with fail
  refine (bytes_any HI.out A _ na _ Hhna.out (Hha.out.old HI.out)).mono ?_
  rintro e w1 ⟨A1, c1, rfl, hJ⟩
  dsimp only
  have hrc := row_rdb hJ (by rw [Hhna.out]; omega) Hha.out.2.1
  clear HI
  have HI := Lib.hid hJ
  have Hrc := Lib.hid hrc
  clear hJ hrc
  go_wp2_with fail
  refine (rt_of p A1 ka na c1 Hhna.out _ Hrc.out).mono ?_
  rintro e w' ⟨rfl, hw'⟩
  rw [Hh1.out]
  subst hw'
  dsimp only [duoV]
  go_wp2_with fail
  refine (rt_ref p A ka na _ Hhna.out _ (Hha.out.old HI.out)).mono ?_
  rintro e w1 ⟨rfl, hw⟩
  have hJ := HI.out.grow hw
  clear hw HI
  have HI := Lib.hid hJ
  clear hJ
  rw [Hh1.out]
  dsimp only [duoV]
  go_wp2_with fail
  refine (rt_ref p B kb nb _ Hhnb.out _ (Hhb.out.old HI.out)).mono ?_
  rintro e w1 ⟨rfl, hw⟩
  have hJ := HI.out.grow hw
  clear hw HI
  have HI := Lib.hid hJ
  clear hJ
  rw [Hh2.out]
  dsimp only [duoV]
  go_wp2_with fail
  refine (rt_same p A B ka kb na nb _ _ Hhna.out Hhnb.out _ (Hha.out.old HI.out) (Hhb.out.old HI.out)).mono ?_
  rintro e w' ⟨rfl, hw'⟩
  rw [Hh3.out]
  subst hw'
  dsimp only
  go_wp2_with fail
  refine (bytes_any HI.out A _ na _ Hhna.out (Hha.out.old HI.out)).mono ?_
  rintro e w1 ⟨A1, c1, rfl, hJ⟩
  dsimp only
  have hrc := row_rdb hJ (by rw [Hhna.out]; omega) Hha.out.2.1
  clear HI
  have HI := Lib.hid hJ
  have Hrc := Lib.hid hrc
  clear hJ hrc
  go_wp2_with fail
  refine (rt_same p A A1 ka ka na na _ _ Hhna.out Hhna.out _ (Hha.out.old HI.out) Hrc.out).mono ?_
  rintro e w' ⟨rfl, hw'⟩
  rw [Hh4.out]
  subst hw'
  dsimp only
  rcases Hhc.out with ⟨rfl, rfl, rfl, rfl, rfl, rfl⟩ | ⟨hE, rfl, rfl, hF, hE2⟩ | ⟨rfl, rfl, rfl, rfl, rfl, rfl⟩
  · clear Hhc Hh1 Hh2 Hh3 Hh4
    go_wp2_with fail
    refine (works11 _).mono ?_
    rintro e w9 ⟨rfl, hw⟩
    dsimp only
    have h9 := HI.out.grow hw
    have Hh9 := Lib.hid h9
    clear h9
    clear hw
    go_wp2
    go_ret
    exact ⟨rfl, Hh9.out.below⟩
  · clear Hhc Hh1 Hh2 Hh3 Hh4 hE
    rcases hF with rfl | rfl | rfl <;> rcases hE2 with rfl | rfl
    all_goals
      go_wp2_with fail
      refine (works11 _).mono ?_
      rintro e w9 ⟨rfl, hw⟩
      dsimp only
      have h9 := HI.out.grow hw
      have Hh9 := Lib.hid h9
      clear h9
      clear hw
      go_wp2
      go_ret
      exact ⟨rfl, Hh9.out.below⟩
  · clear Hhc Hh1 Hh2 Hh3 Hh4
    go_wp2_with fail
    refine (works11 _).mono ?_
    rintro e w9 ⟨rfl, hw⟩
    dsimp only
    have h9 := HI.out.grow hw
    have Hh9 := Lib.hid h9
    clear h9
    clear hw
    go_wp2
    go_ret
    exact ⟨rfl, Hh9.out.below⟩
set_option maxHeartbeats 400000 in
theorem routeKeys_walk (p : Int) (A : Option Addr) (la ca : Nat) (za : List Int) (B : Option Addr) (lb cb : Nat) (zb : List Int) (w : World) (w0 : (Lit.int .i64 p).wf = true) (h1 : za.length = la ∧ la ≤ ca ∧ ca ≤ maxLen ∧ la * 1 ≤ 140737488351232 ∧ InI .u8 w A za) (h2 : zb.length = lb ∧ lb ≤ cb ∧ cb ≤ maxLen ∧ lb * 1 ≤ 140737488351232 ∧ InI .u8 w B zb) :
    Calls Try.prog 4 #[.int .i64 p, .slice A la ca, .slice B lb cb] w (RetB w (.bool true)) := by
  obtain ⟨a1, a2, a3, a4, a5⟩ := h1
  obtain ⟨b1, b2, b3, b4, b5⟩ := h2
  have ka := fewKey_len za
  have kb := fewKey_len zb
  unfold maxLen at a3 b3
  obtain ⟨x, E, hx⟩ : ∃ x E, rtOf p (fewKey za) = (x, E) := ⟨_, _, rfl⟩
  obtain ⟨y, F, hy⟩ : ∃ y F, rtOf p (fewKey zb) = (y, F) := ⟨_, _, rfl⟩
  have s1 := rt_same_of hx hy
  have s2 := rt_same_of hx hx
  have key := fun sv tv S T => keys_of p A B la ca lb cb (min la 65) (min lb 65) (fewKey za) (fewKey zb) w x y E F sv tv S T (by omega) (by omega) a2 (by omega) b2 (by omega) (by split <;> omega) (by split <;> omega) (by omega) (by omega) (by omega) (by omega) (fewKey_rd a5) (fewKey_rd b5) hx hy
  have hp := rt_pair p (fewKey za) (fewKey zb)
  rw [hx, hy] at hp
  have e0 : (x == x) = true := by simp
  rcases hp with ⟨h1, h2⟩ | ⟨h1, h2⟩
  · cases h1
    cases h2
    rw [if_pos (by decide)] at s1 s2
    exact key _ _ _ _ s1 s2 (.inr (.inl ⟨by decide, rfl, rfl, .inr (.inl rfl), .inl rfl⟩))
  · dsimp only at h1 h2
    rcases h1 with rfl | rfl
    · rw [if_neg (by decide), e0] at s2
      rcases h2 with rfl | rfl
      · rw [if_neg (by decide)] at s1
        exact key _ _ _ _ s1 s2 (.inl ⟨rfl, rfl, rfl, rfl, rfl, rfl⟩)
      · rw [if_pos (by decide)] at s1
        exact key _ _ _ _ s1 s2 (.inr (.inr ⟨rfl, rfl, rfl, rfl, rfl, rfl⟩))
    · rw [if_pos (by decide)] at s2
      rcases h2 with rfl | rfl
      · rw [if_pos (by decide)] at s1
        exact key _ _ _ _ s1 s2 (.inr (.inl ⟨by decide, rfl, rfl, .inl rfl, .inr rfl⟩))
      · rw [if_pos (by decide)] at s1
        exact key _ _ _ _ s1 s2 (.inr (.inl ⟨by decide, rfl, rfl, .inr (.inr rfl), .inr rfl⟩))
end Go.Proofs.Ytfkhnpkojnnfmaa
