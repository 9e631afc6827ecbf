/- RouteSorts: any keys go where the document says, or are refused, and how evenly; for every number of parts and keys. -/
import Derived.Test.YtfkhnpkojnnfmaaRouteB
import Derived.Test.YtfkhnpkojnnfmaaRouteF
namespace Go.Proofs.Ytfkhnpkojnnfmaa
open Go Go.RowKit
set_option linter.unusedVariables false
set_option linter.unusedSimpArgs false
set_option maxHeartbeats 2000000 in
set_option maxRecDepth 100000 in
theorem routeSorts_walk (p : Int) (A : Option Addr) (len cap : Nat) (zss : List (List Int)) (w : World) (w0 : (Lit.int .i64 p).wf = true) (hz : zss.length = len ∧ len ≤ cap ∧ cap ≤ maxLen ∧ len * 24 ≤ 140737488351232 ∧ InII .u8 w A zss) :
    Calls Try.prog 5 #[.int .i64 p, .slice A len cap] w (RetB w (.bool true)) := by
  obtain ⟨hl, hlc, hcm, hby, hz⟩ := hz
  have hlb : len ≤ 140737488351232 := by omega
  obtain ⟨m, hm⟩ : ∃ m, min len 257 = m := ⟨_, rfl⟩
  have hm2 : m ≤ 257 := by omega
  have hok := fewTo_ok hz hm2
  clear hlc hcm hby w0
  have Hhl := Lib.hid hl
  have Hhz := Lib.hid hz
  have Hhm := Lib.hid hm
  have Hhok := Lib.hid hok
  clear hl hz hm hok
  rcases refuses_or p m with ⟨E, hr⟩ | ⟨hp, h256, q, rfl⟩
  · have hEE : (E == E) = true := by simp
    have Hhr := Lib.hid hr
    clear hr
    have hI := Inv.refl w
    go_enter Try.func5, Try.ntmps5
    go_wp2_with fail
    refine (few_any hI A len cap zss Hhl.out hlb Hhz.out).mono ?_
    rintro e w2 ⟨A', c', rfl, h2⟩
    rw [Hhm.out] at h2 ⊢
    dsimp only
    have H2 := Lib.hid h2
    clear h2 hI
    go_wp2_with fail
    refine (rt_sort_no (A := A') (c := c') p E hm2 H2.out Hhr.out).mono ?_
    rintro e w3 ⟨rfl, h3⟩
    dsimp only
    clear H2
    have H2 := Lib.hid h3
    clear h3
    go_wp2_with fail
    refine (rt_rsort_no (A := A') (c := c') p E hm2 H2.out Hhr.out).mono ?_
    rintro e w3 ⟨rfl, h3⟩
    dsimp only
    clear H2
    have H2 := Lib.hid h3
    clear h3
    go_wp2_with fail
    refine (rt_spread_no (A := A') (c := c') p E hm2 H2.out Hhr.out).mono ?_
    rintro e w3 ⟨rfl, h3⟩
    dsimp only
    clear H2
    have H2 := Lib.hid h3
    clear h3
    go_wp2_with fail
    refine (rt_rspread_no (A := A') (c := c') p E hm2 H2.out Hhr.out).mono ?_
    rintro e w3 ⟨rfl, h3⟩
    dsimp only
    clear H2
    have H2 := Lib.hid h3
    clear h3
    go_wp2_with fail
    go_loopw [13] (fun i wr => i = .int .i64 0 ∧ wr = w3) (fun _ _ => 0)
    case atStart => exact ⟨rfl, rfl⟩
    case round =>
      obtain ⟨rfl, rfl⟩ := hrel
      go_wp2_with fail
      refine (works11 _).mono ?_
      rintro e w9 ⟨rfl, hw⟩
      dsimp only
      have h9 := H2.out.grow hw
      have Hh9 := Lib.hid h9
      clear h9
      clear hw
      go_wp2
      go_ret
      exact ⟨rfl, Hh9.out.below⟩
  · obtain ⟨p1, p2⟩ := rtMay_ok hp
    have Hhp := Lib.hid hp
    clear hp
    have hI := Inv.refl w
    go_enter Try.func5, Try.ntmps5
    go_wp2_with fail
    refine (few_any hI A len cap zss Hhl.out hlb Hhz.out).mono ?_
    rintro e w2 ⟨A', c', rfl, h2⟩
    rw [Hhm.out] at h2 ⊢
    dsimp only
    have H2 := Lib.hid h2
    clear h2 hI
    go_wp2_with fail
    refine (rt_sort q Hhp.out h256 Hhok.out H2.out).mono ?_
    rintro e w3 (⟨hs, g, rfl, h3⟩ | ⟨hs, rfl, h3⟩)
    · dsimp only
      clear H2
      have H2 := Lib.hid h3
      have Hhs := Lib.hid hs
      clear hs
      clear h3
      as_aux_lemma =>
      go_wp2_with fail
      refine (rt_rsort q Hhp.out h256 Hhok.out H2.out.pull1).mono ?_
      rintro e w3 (⟨_, g2, rfl, h3⟩ | ⟨hn, _⟩)
      · dsimp only
        clear H2
        have H2 := Lib.hid h3
        clear h3
        go_wp2_with fail
        refine (rt_spread q Hhp.out h256 Hhok.out H2.out.pull1).mono ?_
        rintro e w3 ⟨⟨_, rfl⟩ | ⟨hn, _⟩, h3⟩
        · obtain ⟨s, hsp⟩ : ∃ s, spread q (fewTo zss m) m = s := ⟨_, rfl⟩
          rw [hsp]
          have Hsp := Lib.hid hsp
          clear hsp
          dsimp only
          clear H2
          have H2 := Lib.hid h3
          clear h3
          go_wp2_with fail
          refine (rt_rspread q Hhp.out h256 Hhok.out H2.out).mono ?_
          rintro e w3 ⟨⟨_, rfl⟩ | ⟨hn, _⟩, h3⟩
          · rw [Hsp.out]
            dsimp only
            have hss : (s == s) = true := by simp
            clear H2
            have H2 := Lib.hid h3
            clear h3
            go_wp2_with fail
            go_loopw [13] (fun i wr => ∃ k : Nat, k ≤ q ∧ i = .int .i64 k ∧ Inv w wr [KeysA A' m c' (fewTo zss m), GridA 30 3 (some ⟨g2, 0, none⟩) q q (rtRows (rtSort q (fewTo zss m) m)), GridA 30 3 (some ⟨g, 0, none⟩) q q (rtRows (rtSort q (fewTo zss m) m))]) (fun i _ => q - (intOf i).toNat)
            case atStart => exact ⟨0, Nat.zero_le _, rfl, H2.out⟩
            case round =>
              obtain ⟨k, hk, rfl, hI⟩ := hrel
              clear H2
              have H2 := Lib.hid hI
              by_cases hlt : k < q
              · obtain ⟨x, hx⟩ : ∃ x, (rtSort q (fewTo zss m) m)[k]? = some x := ⟨_, List.getElem?_eq_getElem (by rw [rtSort_len]; exact hlt)⟩
                have hxl := rtSort_le _ _ _ _ _ hx
                obtain ⟨B, d, hc, hr, _, _⟩ := rows_at hI.pull1 hx
                obtain ⟨B2, d2, hc2, hr2, _, _⟩ := rows_at hI.pull2 hx
                have hr := hr (by omega)
                have hr2 := hr2 (by omega)
                have hsame : ∀ n, Calls Try.prog 19 #[.slice B2 x.length d2, .slice B x.length d] (wr.drewN n) fun e w' => e = .returned (.bool true) ∧ ∃ m, w' = (wr.drewN n).drewN m := fun n => by
                  have := same_any B2 B x x _ _ d2 d rfl rfl _ (hr2.of (below_drewN' _ n)) (hr.of (below_drewN' _ n))
                  rwa [decide_eq_true rfl] at this
                have k0 : (0 : Int) ≤ k := by omega
                have k1 : (k : Int) < q := by omega
                have Hhsame := Lib.hid hsame
                clear hsame
                clear hI hr hr2 hx
                go_wp2_with fail
                go_quiet ((go_at_call 19; exact Calls.quiet_of (Hhsame.out _)))
                go_wp2
                go_roundw
                case rel => exact ⟨k + 1, by omega, by go_num, H2.out.drewN _⟩
                case measure => simp [intOf]; omega
              · clear hI
                go_wp2_with fail
                refine (works11 _).mono ?_
                rintro e w9 ⟨rfl, hw⟩
                dsimp only
                have h9 := H2.out.grow hw
                have Hh9 := Lib.hid h9
                clear h9
                clear hw
                go_wp2
                go_ret
                exact ⟨rfl, Hh9.out.below⟩
          · exact absurd Hhs.out hn
        · exact absurd Hhs.out hn
      · exact absurd Hhs.out hn
    · dsimp only
      clear H2
      have H2 := Lib.hid h3
      have Hhs := Lib.hid hs
      clear hs
      clear h3
      as_aux_lemma =>
      go_wp2_with fail
      refine (rt_rsort q Hhp.out h256 Hhok.out H2.out).mono ?_
      rintro e w3 (⟨hn, _⟩ | ⟨_, rfl, h3⟩)
      · exact absurd hn Hhs.out
      dsimp only
      clear H2
      have H2 := Lib.hid h3
      clear h3
      go_wp2_with fail
      refine (rt_spread q Hhp.out h256 Hhok.out H2.out).mono ?_
      rintro e w3 ⟨⟨hn, _⟩ | ⟨_, rfl⟩, h3⟩
      · exact absurd hn Hhs.out
      dsimp only
      clear H2
      have H2 := Lib.hid h3
      clear h3
      go_wp2_with fail
      refine (rt_rspread q Hhp.out h256 Hhok.out H2.out).mono ?_
      rintro e w3 ⟨⟨hn, _⟩ | ⟨_, rfl⟩, h3⟩
      · exact absurd hn Hhs.out
      dsimp only
      clear H2
      have H2 := Lib.hid h3
      clear h3
      go_wp2_with fail
      go_loopw [13] (fun i wr => i = .int .i64 0 ∧ wr = w3) (fun _ _ => 0)
      case atStart => exact ⟨rfl, rfl⟩
      case round =>
        obtain ⟨rfl, rfl⟩ := hrel
        go_wp2_with fail
        refine (works11 _).mono ?_
        rintro e w9 ⟨rfl, hw⟩
        dsimp only
        have h9 := H2.out.grow hw
        have Hh9 := Lib.hid h9
        clear h9
        clear hw
        go_wp2
        go_ret
        exact ⟨rfl, Hh9.out.below⟩
end Go.Proofs.Ytfkhnpkojnnfmaa
