/- RingReady: what is ready from an offset on is all published, and what comes then is not; for every room, list of acts and offset. -/
import Derived.Test.YtfackochjlccpaaL06
import Derived.Test.YtfackochjlccpaaOpen
namespace Go.Proofs.Ytfackochjlccpaa
open Go Go.RowKit
set_option linter.unusedVariables false
set_option linter.unusedSimpArgs false

theorem tw_spec {α : Type} {p : α → Bool} : ∀ (l : List α), (∀ j x, j < (l.takeWhile p).length → l[j]? = some x → p x = true) ∧ (∀ x, l[(l.takeWhile p).length]? = some x → p x = false) ∧ (l.takeWhile p).length ≤ l.length
  | [] => ⟨fun j x h => by simp at h, fun x h => by simp at h, Nat.le_refl _⟩
  | y :: l => by
    obtain ⟨h1, h2, h3⟩ := tw_spec l
    by_cases hp : p y = true
    · rw [List.takeWhile_cons, hp]
      simp only [if_true, List.length_cons]
      refine ⟨fun j x hj hx => ?_, fun x hx => h2 x hx, by omega⟩
      cases j with
      | zero => simp at hx; rw [← hx]; exact hp
      | succ j => exact h1 j x (by omega) hx
    · rw [List.takeWhile_cons]
      simp only [hp]
      refine ⟨fun j x hj _ => by simp at hj, fun x hx => ?_, Nat.zero_le _⟩
      simp at hx
      rw [← hx]
      simpa using hp

/-- What Ready tells. -/
theorem ready_spec (s : RSt) (f : Int) (hm : s.from_ f ≤ s.t) (hh : s.h ≤ s.from_ f) :
    s.from_ f ≤ s.ready f ∧ s.ready f ≤ s.t ∧ (∀ k : Nat, s.from_ f ≤ k → k < s.ready f → (s.get k).2 = 0) ∧ ((s.get (s.ready f)).2 = 8 ∨ (s.get (s.ready f)).2 = 5 ∧ s.ready f = s.t) := by
  obtain ⟨m, hmm⟩ : ∃ m, s.from_ f = m := ⟨_, rfl⟩
  have hr : s.ready f = min m s.t + ((s.win m).takeWhile (·.2.2)).length := by unfold RSt.ready; rw [hmm]
  rw [hmm] at hm hh ⊢
  obtain ⟨h1, h2, h3⟩ := tw_spec (p := fun x : Nat × Int × Bool => x.2.2) (s.win m)
  rw [win_len] at h3
  obtain ⟨c, hc⟩ : ∃ c, ((s.win m).takeWhile (·.2.2)).length = c := ⟨_, rfl⟩
  rw [hc] at h1 h2 h3 hr
  rw [Nat.min_eq_left hm] at hr
  rw [hr]
  have at_ : ∀ k, m ≤ k → k < s.t → ∃ p, s.L[k - s.h]? = some p ∧ (s.win m)[k - m]? = some (k, p) := fun k hk1 hk2 => by
    have hl : k - s.h < s.L.length := by unfold RSt.t at hk2; omega
    refine ⟨_, List.getElem?_eq_getElem hl, ?_⟩
    simp only [RSt.win, List.getElem?_map, List.getElem?_range (show k - m < s.t - m by omega), Option.map_some]
    rw [show m + (k - m) = k by omega, List.getElem?_eq_getElem hl]
    rfl
  have fz : ∀ k : Nat, m ≤ k → k < s.t → s.findE k = 0 := fun k hk1 hk2 => by
    unfold RSt.findE
    rw [if_neg (by omega), if_neg (by omega), if_neg (by omega)]
  refine ⟨by omega, by omega, fun k hk1 hk2 => ?_, ?_⟩
  · obtain ⟨p, hp, hw⟩ := at_ k hk1 (by omega)
    have := h1 (k - m) _ (by omega) hw
    unfold RSt.get
    rw [if_neg (by rw [fz k hk1 (by omega)]; simp), show ((k : Int) - s.h).toNat = k - s.h by omega, hp]
    simp only at this
    simp [this]
  · by_cases he : m + c < s.t
    · obtain ⟨p, hp, hw⟩ := at_ (m + c) (by omega) he
      rw [show m + c - m = c by omega] at hw
      have := h2 _ hw
      refine .inl ?_
      unfold RSt.get
      rw [if_neg (by rw [fz _ (by omega) he]; simp), show (((m + c : Nat) : Int) - s.h).toNat = m + c - s.h by omega, hp]
      simp only at this
      simp [this]
    · have he' : m + c = s.t := by omega
      refine .inr ⟨?_, he'⟩
      rw [he']
      have : s.findE (s.t : Int) = 5 := by
        unfold RSt.findE
        rw [if_neg (by omega), if_neg (by omega), if_pos (by omega)]
      unfold RSt.get
      rw [if_pos (by rw [this]; simp)]
      exact this
theorem from_spec (s : RSt) (ok : s.Ok) (f : Int) (h0 : 0 ≤ f) (h1 : f ≤ s.t) : s.from_ f ≤ s.t ∧ s.h ≤ s.from_ f := by
  have := (RSt.ne_of ok).2.1
  unfold RSt.from_
  split <;> omega

set_option maxHeartbeats 1000000 in
set_option maxRecDepth 100000 in
theorem ringReady_walk (room : Int) (A : Option Addr) (len cap : Nat) (zs : List (Int × Int)) (fr : Int) (w : World) (h0 : (Lit.int .i64 room).wf = true) (hz : zs.length = len ∧ len ≤ cap ∧ cap ≤ maxLen ∧ len * 16 ≤ 140737488351232 ∧ In2 w A zs) (h1 : (Lit.int .i64 fr).wf = true) :
    Calls Try.prog 3 #[.int .i64 room, .slice A len cap, .int .i64 fr] w (RetB w (.bool true)) := by
  obtain ⟨hlen, _, _, hby, hin⟩ := hz
  have hb : len ≤ 8796093022000 := by omega
  obtain ⟨q0, q1⟩ := amongI_lt room 64 (by omega)
  obtain ⟨n, hn⟩ : ∃ n : Nat, 1 + amongI room 64 = n := ⟨(1 + amongI room 64).toNat, by omega⟩
  have hn1 : 1 ≤ n := by omega
  have hn2 : n ≤ 64 := by omega
  have HN := Lib.hid hn
  have HL := Lib.hid hlen
  have HIN := Lib.hid hin
  clear hn hlen hin h0 h1 hby
  go_enter Try.func3, Try.ntmps3
  go_wp2_with fail
  refine (works06 w).mono ?_
  rintro e w1 ⟨rfl, hb1⟩
  dsimp only
  have HI := Lib.hid ((Inv.refl w).grow hb1)
  clear hb1
  go_wp2_with fail
  refine (among_any room 64 (by omega) (by omega) _).mono ?_
  rintro e w' ⟨rfl, rfl⟩
  dsimp only
  go_wp2_with fail
  rw [HN.out]
  refine (ring_make HI.out n 1 hn1 hn2 (by omega) (by omega)).mono ?_
  rintro e w2 ⟨b, rfl, hI⟩
  dsimp only
  have H2 := Lib.hid hI
  clear HI hI
  go_wp2_with fail
  go_loopw [9] (fun i wr => ∃ (k : Nat) (s : RSt), k ≤ len ∧ i = .int .i64 k ∧ Inv w wr [RingA b s]) (fun i _ => len - (intOf i).toNat)
  case atStart => exact ⟨0, _, Nat.zero_le _, rfl, H2.out⟩
  case round =>
    obtain ⟨k, s, hk, rfl, hI⟩ := hrel
    by_cases hlt : k < len ∧ k < 150
    · obtain ⟨hlt, h150⟩ := hlt
      as_aux_lemma =>
      obtain ⟨g, o, rfl, hc⟩ := HIN.out (by have := HL.out; omega)
      obtain ⟨z, hz⟩ : ∃ z, zs[k]? = some z := ⟨_, List.getElem?_eq_getElem (by have := HL.out; omega)⟩
      obtain ⟨⟨ca, cb⟩, w0, _⟩ := hc k z hz
      have ca := hI.old_cell ca
      have cb := hI.old_cell cb
      obtain ⟨q, r⟩ := ring_read hI
      have htT := (RSt.ne_of r.ok).1
      have HI := Lib.hid hI
      have RR := Lib.hid r
      clear hc hz r hI w0
      by_cases hm : z.1.tmod 2 = 0
      · have hmb : (z.1.tmod 2 == 0) = true := by rw [beq_iff_eq]; exact hm
        clear hm
        go_wp2_with fail
        refine (ring_claim HI.out 1).mono ?_
        rintro e w3 ⟨rfl, h3⟩
        dsimp only [tri]
        have H3 := Lib.hid h3
        clear h3
        go_wp2
        go_roundw
        case rel => exact ⟨k + 1, _, by omega, by go_num, H3.out⟩
        case measure => simp [intOf]; omega
      · have hmb : (z.1.tmod 2 == 0) = false := by rw [beq_eq_false_iff_ne]; exact hm
        clear hm
        have hwr : IntKind.i64.wrap ((s.t : Int) + 1) = (s.t : Int) + 1 := IntWalk.i64_in _ (by omega)
        go_wp2_with fail
        refine wp_region_still_tail 10 (by kernel_rfl) (by kernel_rfl) ?_
        simp only [List.take_succ_cons, List.take_zero, List.drop_succ_cons, List.drop_zero]
        repeat still_step
        still_call ((ring_tail (RR.out.of (Below.refl _ _).drew)).mono fun _ _ ⟨a, b⟩ => ⟨a, b.symm⟩)
        repeat still_step
        still_call ((among_any z.2 (s.t + 1) (by omega) (by omega) _).mono fun _ _ ⟨a, b⟩ => ⟨a, b.symm⟩)
        repeat still_step
        refine wpStill_nil ?_
        clear hwr
        obtain ⟨x, hx⟩ : ∃ x, amongI z.2 (s.t + 1) = x := ⟨_, rfl⟩
        rw [hx]
        clear hx
        go_wp2_with fail
        refine (ring_publish HI.out.drew x).mono ?_
        rintro e w3 ⟨rfl, h3⟩
        dsimp only
        have H3 := Lib.hid h3
        clear h3
        go_wp2
        go_roundw
        case rel => exact ⟨k + 1, _, by omega, by go_num, H3.out⟩
        case measure => simp [intOf]; omega
    · have hcase : len ≤ k ∨ (k < len ∧ 150 ≤ k) := by omega
      obtain ⟨q, r⟩ := ring_read hI
      have hok := r.ok
      have htT := (RSt.ne_of hok).1
      obtain ⟨f0, f1⟩ := amongI_lt fr (s.t + 1) (by omega)
      obtain ⟨f, hf⟩ : ∃ f, amongI fr (s.t + 1) = f := ⟨_, rfl⟩
      rw [hf] at f0 f1
      obtain ⟨m1, m2⟩ := from_spec s hok f f0 (by omega)
      obtain ⟨g1, g2, g3, g4⟩ := ready_spec s f m1 m2
      have HFR := Lib.hid (RSt.from_eq s f)
      have hhr : s.h ≤ s.ready f := by omega
      obtain ⟨rd, hrd⟩ : ∃ x, s.ready f = x := ⟨_, rfl⟩
      obtain ⟨m, hm⟩ : ∃ x, s.from_ f = x := ⟨_, rfl⟩
      rw [hrd] at g1 g2 g3 g4 hhr
      rw [hm] at g1 g3 m1 m2 HFR
      have HRD := Lib.hid hrd
      have HF := Lib.hid hf
      have HI := Lib.hid hI
      have RR := Lib.hid r
      have G3 := Lib.hid g3
      have G4 := Lib.hid g4
      clear hlt hrd hm hf hI r g3 g4 hok
      have hmx : (f < s.h ∧ m = s.h) ∨ ((s.h : Int) ≤ f ∧ f = m) := by
        have := HFR.out
        split at this <;> omega
      rcases hcase with hd | ⟨hd, hd2⟩
      · rcases hmx with ⟨hm1, rfl⟩ | ⟨hm1, rfl⟩
        · as_aux_lemma =>
          go_wp2_with fail
          refine (ring_tail RR.out).mono ?_
          rintro e w' ⟨rfl, rfl⟩
          dsimp only
          go_wp2_with fail
          refine (among_any fr (s.t + 1) (by omega) (by omega) _).mono ?_
          rintro e w' ⟨rfl, rfl⟩
          rw [HF.out]
          dsimp only
          go_wp2_with fail
          refine (ring_ready HI.out _).mono ?_
          rintro e w3 ⟨rfl, h3⟩
          rw [HRD.out]
          dsimp only
          obtain ⟨q3, r3⟩ := ring_read h3
          have H3 := Lib.hid h3
          have R3 := Lib.hid r3
          clear h3 r3
          go_wp2_with fail
          refine (ring_head R3.out).mono ?_
          rintro e w' ⟨rfl, rfl⟩
          dsimp only
          go_wp2_with fail
          go_loopw [11] (fun i wr => ∃ j : Nat, (s.h ≤ j ∧ j ≤ rd) ∧ i = .int .i64 j ∧ Inv w wr [RingA b s]) (fun i _ => rd - (intOf i).toNat)
          case atStart => exact ⟨s.h, ⟨Nat.le_refl _, g1⟩, rfl, H3.out⟩
          case round =>
            obtain ⟨j, ⟨hj1, hj2⟩, rfl, hI⟩ := hrel
            obtain ⟨q4, r4⟩ := ring_read hI
            have H4 := Lib.hid hI
            have R4 := Lib.hid r4
            clear hI r4
            by_cases hjl : j < rd
            · have hg := G3.out j hj1 hjl
              obtain ⟨x, y, hxy⟩ : ∃ x y, s.get j = (x, y) := ⟨_, _, rfl⟩
              rw [hxy] at hg
              obtain rfl : y = 0 := hg
              have HX := Lib.hid hxy
              clear hxy
              go_wp2_with fail
              refine (ring_get R4.out j).mono ?_
              rintro e w5 ⟨rfl, m5, rfl⟩
              rw [HX.out]
              dsimp only [duo]
              go_wp2
              go_roundw
              case rel => exact ⟨j + 1, ⟨by omega, by omega⟩, by go_num, H4.out.drewN _⟩
              case measure => simp [intOf]; omega
            · obtain rfl : j = rd := by omega
              have bh : decide ((s.h : Int) ≤ (j : Int)) = true := by rw [decide_eq_true_iff]; omega
              have bt : decide ((j : Int) ≤ (s.t : Int)) = true := by rw [decide_eq_true_iff]; omega
              obtain ⟨x, y, hxy⟩ : ∃ x y, s.get j = (x, y) := ⟨_, _, rfl⟩
              have hg := G4.out
              rw [hxy] at hg
              have HX := Lib.hid hxy
              clear hxy
              rcases hg with rfl | ⟨rfl, he⟩
              · go_wp2_with fail
                refine (ring_get R4.out j).mono ?_
                rintro e w5 ⟨rfl, m5, rfl⟩
                rw [HX.out]
                dsimp only [duo]
                have R5 := Lib.hid (R4.out.of (below_drewN' _ m5))
                go_wp2_with fail
                refine (ring_head R5.out).mono ?_
                rintro e w' ⟨rfl, rfl⟩
                dsimp only
                go_wp2_with fail
                refine (ring_tail R5.out).mono ?_
                rintro e w' ⟨rfl, rfl⟩
                dsimp only
                go_wp2
                go_ret
                exact ⟨rfl, (H4.out.drewN _).below⟩
              · have be : ((j : Int) == (s.t : Int)) = true := by rw [beq_iff_eq]; omega
                clear he
                go_wp2_with fail
                refine (ring_get R4.out j).mono ?_
                rintro e w5 ⟨rfl, m5, rfl⟩
                rw [HX.out]
                dsimp only [duo]
                have R5 := Lib.hid (R4.out.of (below_drewN' _ m5))
                go_wp2_with fail
                refine (ring_head R5.out).mono ?_
                rintro e w' ⟨rfl, rfl⟩
                dsimp only
                go_wp2_with fail
                refine (ring_tail R5.out).mono ?_
                rintro e w' ⟨rfl, rfl⟩
                dsimp only
                go_wp2_with fail
                refine (ring_tail R5.out).mono ?_
                rintro e w' ⟨rfl, rfl⟩
                dsimp only
                go_wp2
                go_ret
                exact ⟨rfl, (H4.out.drewN _).below⟩
        · as_aux_lemma =>
          go_wp2_with fail
          refine (ring_tail RR.out).mono ?_
          rintro e w' ⟨rfl, rfl⟩
          dsimp only
          go_wp2_with fail
          refine (among_any fr (s.t + 1) (by omega) (by omega) _).mono ?_
          rintro e w' ⟨rfl, rfl⟩
          rw [HF.out]
          dsimp only
          go_wp2_with fail
          refine (ring_ready HI.out _).mono ?_
          rintro e w3 ⟨rfl, h3⟩
          rw [HRD.out]
          dsimp only
          obtain ⟨q3, r3⟩ := ring_read h3
          have H3 := Lib.hid h3
          have R3 := Lib.hid r3
          clear h3 r3
          go_wp2_with fail
          refine (ring_head R3.out).mono ?_
          rintro e w' ⟨rfl, rfl⟩
          dsimp only
          go_wp2_with fail
          go_loopw [11] (fun i wr => ∃ j : Nat, (m ≤ j ∧ j ≤ rd) ∧ i = .int .i64 j ∧ Inv w wr [RingA b s]) (fun i _ => rd - (intOf i).toNat)
          case atStart => exact ⟨m, ⟨Nat.le_refl _, g1⟩, rfl, H3.out⟩
          case round =>
            obtain ⟨j, ⟨hj1, hj2⟩, rfl, hI⟩ := hrel
            obtain ⟨q4, r4⟩ := ring_read hI
            have H4 := Lib.hid hI
            have R4 := Lib.hid r4
            clear hI r4
            by_cases hjl : j < rd
            · have hg := G3.out j hj1 hjl
              obtain ⟨x, y, hxy⟩ : ∃ x y, s.get j = (x, y) := ⟨_, _, rfl⟩
              rw [hxy] at hg
              obtain rfl : y = 0 := hg
              have HX := Lib.hid hxy
              clear hxy
              go_wp2_with fail
              refine (ring_get R4.out j).mono ?_
              rintro e w5 ⟨rfl, m5, rfl⟩
              rw [HX.out]
              dsimp only [duo]
              go_wp2
              go_roundw
              case rel => exact ⟨j + 1, ⟨by omega, by omega⟩, by go_num, H4.out.drewN _⟩
              case measure => simp [intOf]; omega
            · obtain rfl : j = rd := by omega
              have bh : decide ((s.h : Int) ≤ (j : Int)) = true := by rw [decide_eq_true_iff]; omega
              have bt : decide ((j : Int) ≤ (s.t : Int)) = true := by rw [decide_eq_true_iff]; omega
              obtain ⟨x, y, hxy⟩ : ∃ x y, s.get j = (x, y) := ⟨_, _, rfl⟩
              have hg := G4.out
              rw [hxy] at hg
              have HX := Lib.hid hxy
              clear hxy
              rcases hg with rfl | ⟨rfl, he⟩
              · go_wp2_with fail
                refine (ring_get R4.out j).mono ?_
                rintro e w5 ⟨rfl, m5, rfl⟩
                rw [HX.out]
                dsimp only [duo]
                have R5 := Lib.hid (R4.out.of (below_drewN' _ m5))
                go_wp2_with fail
                refine (ring_head R5.out).mono ?_
                rintro e w' ⟨rfl, rfl⟩
                dsimp only
                go_wp2_with fail
                refine (ring_tail R5.out).mono ?_
                rintro e w' ⟨rfl, rfl⟩
                dsimp only
                go_wp2
                go_ret
                exact ⟨rfl, (H4.out.drewN _).below⟩
              · have be : ((j : Int) == (s.t : Int)) = true := by rw [beq_iff_eq]; omega
                clear he
                go_wp2_with fail
                refine (ring_get R4.out j).mono ?_
                rintro e w5 ⟨rfl, m5, rfl⟩
                rw [HX.out]
                dsimp only [duo]
                have R5 := Lib.hid (R4.out.of (below_drewN' _ m5))
                go_wp2_with fail
                refine (ring_head R5.out).mono ?_
                rintro e w' ⟨rfl, rfl⟩
                dsimp only
                go_wp2_with fail
                refine (ring_tail R5.out).mono ?_
                rintro e w' ⟨rfl, rfl⟩
                dsimp only
                go_wp2_with fail
                refine (ring_tail R5.out).mono ?_
                rintro e w' ⟨rfl, rfl⟩
                dsimp only
                go_wp2
                go_ret
                exact ⟨rfl, (H4.out.drewN _).below⟩
      · rcases hmx with ⟨hm1, rfl⟩ | ⟨hm1, rfl⟩
        · as_aux_lemma =>
          go_wp2_with fail
          refine (ring_tail RR.out).mono ?_
          rintro e w' ⟨rfl, rfl⟩
          dsimp only
          go_wp2_with fail
          refine (among_any fr (s.t + 1) (by omega) (by omega) _).mono ?_
          rintro e w' ⟨rfl, rfl⟩
          rw [HF.out]
          dsimp only
          go_wp2_with fail
          refine (ring_ready HI.out _).mono ?_
          rintro e w3 ⟨rfl, h3⟩
          rw [HRD.out]
          dsimp only
          obtain ⟨q3, r3⟩ := ring_read h3
          have H3 := Lib.hid h3
          have R3 := Lib.hid r3
          clear h3 r3
          go_wp2_with fail
          refine (ring_head R3.out).mono ?_
          rintro e w' ⟨rfl, rfl⟩
          dsimp only
          go_wp2_with fail
          go_loopw [11] (fun i wr => ∃ j : Nat, (s.h ≤ j ∧ j ≤ rd) ∧ i = .int .i64 j ∧ Inv w wr [RingA b s]) (fun i _ => rd - (intOf i).toNat)
          case atStart => exact ⟨s.h, ⟨Nat.le_refl _, g1⟩, rfl, H3.out⟩
          case round =>
            obtain ⟨j, ⟨hj1, hj2⟩, rfl, hI⟩ := hrel
            obtain ⟨q4, r4⟩ := ring_read hI
            have H4 := Lib.hid hI
            have R4 := Lib.hid r4
            clear hI r4
            by_cases hjl : j < rd
            · have hg := G3.out j hj1 hjl
              obtain ⟨x, y, hxy⟩ : ∃ x y, s.get j = (x, y) := ⟨_, _, rfl⟩
              rw [hxy] at hg
              obtain rfl : y = 0 := hg
              have HX := Lib.hid hxy
              clear hxy
              go_wp2_with fail
              refine (ring_get R4.out j).mono ?_
              rintro e w5 ⟨rfl, m5, rfl⟩
              rw [HX.out]
              dsimp only [duo]
              go_wp2
              go_roundw
              case rel => exact ⟨j + 1, ⟨by omega, by omega⟩, by go_num, H4.out.drewN _⟩
              case measure => simp [intOf]; omega
            · obtain rfl : j = rd := by omega
              have bh : decide ((s.h : Int) ≤ (j : Int)) = true := by rw [decide_eq_true_iff]; omega
              have bt : decide ((j : Int) ≤ (s.t : Int)) = true := by rw [decide_eq_true_iff]; omega
              obtain ⟨x, y, hxy⟩ : ∃ x y, s.get j = (x, y) := ⟨_, _, rfl⟩
              have hg := G4.out
              rw [hxy] at hg
              have HX := Lib.hid hxy
              clear hxy
              rcases hg with rfl | ⟨rfl, he⟩
              · go_wp2_with fail
                refine (ring_get R4.out j).mono ?_
                rintro e w5 ⟨rfl, m5, rfl⟩
                rw [HX.out]
                dsimp only [duo]
                have R5 := Lib.hid (R4.out.of (below_drewN' _ m5))
                go_wp2_with fail
                refine (ring_head R5.out).mono ?_
                rintro e w' ⟨rfl, rfl⟩
                dsimp only
                go_wp2_with fail
                refine (ring_tail R5.out).mono ?_
                rintro e w' ⟨rfl, rfl⟩
                dsimp only
                go_wp2
                go_ret
                exact ⟨rfl, (H4.out.drewN _).below⟩
              · have be : ((j : Int) == (s.t : Int)) = true := by rw [beq_iff_eq]; omega
                clear he
                go_wp2_with fail
                refine (ring_get R4.out j).mono ?_
                rintro e w5 ⟨rfl, m5, rfl⟩
                rw [HX.out]
                dsimp only [duo]
                have R5 := Lib.hid (R4.out.of (below_drewN' _ m5))
                go_wp2_with fail
                refine (ring_head R5.out).mono ?_
                rintro e w' ⟨rfl, rfl⟩
                dsimp only
                go_wp2_with fail
                refine (ring_tail R5.out).mono ?_
                rintro e w' ⟨rfl, rfl⟩
                dsimp only
                go_wp2_with fail
                refine (ring_tail R5.out).mono ?_
                rintro e w' ⟨rfl, rfl⟩
                dsimp only
                go_wp2
                go_ret
                exact ⟨rfl, (H4.out.drewN _).below⟩
        · as_aux_lemma =>
          go_wp2_with fail
          refine (ring_tail RR.out).mono ?_
          rintro e w' ⟨rfl, rfl⟩
          dsimp only
          go_wp2_with fail
          refine (among_any fr (s.t + 1) (by omega) (by omega) _).mono ?_
          rintro e w' ⟨rfl, rfl⟩
          rw [HF.out]
          dsimp only
          go_wp2_with fail
          refine (ring_ready HI.out _).mono ?_
          rintro e w3 ⟨rfl, h3⟩
          rw [HRD.out]
          dsimp only
          obtain ⟨q3, r3⟩ := ring_read h3
          have H3 := Lib.hid h3
          have R3 := Lib.hid r3
          clear h3 r3
          go_wp2_with fail
          refine (ring_head R3.out).mono ?_
          rintro e w' ⟨rfl, rfl⟩
          dsimp only
          go_wp2_with fail
          go_loopw [11] (fun i wr => ∃ j : Nat, (m ≤ j ∧ j ≤ rd) ∧ i = .int .i64 j ∧ Inv w wr [RingA b s]) (fun i _ => rd - (intOf i).toNat)
          case atStart => exact ⟨m, ⟨Nat.le_refl _, g1⟩, rfl, H3.out⟩
          case round =>
            obtain ⟨j, ⟨hj1, hj2⟩, rfl, hI⟩ := hrel
            obtain ⟨q4, r4⟩ := ring_read hI
            have H4 := Lib.hid hI
            have R4 := Lib.hid r4
            clear hI r4
            by_cases hjl : j < rd
            · have hg := G3.out j hj1 hjl
              obtain ⟨x, y, hxy⟩ : ∃ x y, s.get j = (x, y) := ⟨_, _, rfl⟩
              rw [hxy] at hg
              obtain rfl : y = 0 := hg
              have HX := Lib.hid hxy
              clear hxy
              go_wp2_with fail
              refine (ring_get R4.out j).mono ?_
              rintro e w5 ⟨rfl, m5, rfl⟩
              rw [HX.out]
              dsimp only [duo]
              go_wp2
              go_roundw
              case rel => exact ⟨j + 1, ⟨by omega, by omega⟩, by go_num, H4.out.drewN _⟩
              case measure => simp [intOf]; omega
            · obtain rfl : j = rd := by omega
              have bh : decide ((s.h : Int) ≤ (j : Int)) = true := by rw [decide_eq_true_iff]; omega
              have bt : decide ((j : Int) ≤ (s.t : Int)) = true := by rw [decide_eq_true_iff]; omega
              obtain ⟨x, y, hxy⟩ : ∃ x y, s.get j = (x, y) := ⟨_, _, rfl⟩
              have hg := G4.out
              rw [hxy] at hg
              have HX := Lib.hid hxy
              clear hxy
              rcases hg with rfl | ⟨rfl, he⟩
              · go_wp2_with fail
                refine (ring_get R4.out j).mono ?_
                rintro e w5 ⟨rfl, m5, rfl⟩
                rw [HX.out]
                dsimp only [duo]
                have R5 := Lib.hid (R4.out.of (below_drewN' _ m5))
                go_wp2_with fail
                refine (ring_head R5.out).mono ?_
                rintro e w' ⟨rfl, rfl⟩
                dsimp only
                go_wp2_with fail
                refine (ring_tail R5.out).mono ?_
                rintro e w' ⟨rfl, rfl⟩
                dsimp only
                go_wp2
                go_ret
                exact ⟨rfl, (H4.out.drewN _).below⟩
              · have be : ((j : Int) == (s.t : Int)) = true := by rw [beq_iff_eq]; omega
                clear he
                go_wp2_with fail
                refine (ring_get R4.out j).mono ?_
                rintro e w5 ⟨rfl, m5, rfl⟩
                rw [HX.out]
                dsimp only [duo]
                have R5 := Lib.hid (R4.out.of (below_drewN' _ m5))
                go_wp2_with fail
                refine (ring_head R5.out).mono ?_
                rintro e w' ⟨rfl, rfl⟩
                dsimp only
                go_wp2_with fail
                refine (ring_tail R5.out).mono ?_
                rintro e w' ⟨rfl, rfl⟩
                dsimp only
                go_wp2_with fail
                refine (ring_tail R5.out).mono ?_
                rintro e w' ⟨rfl, rfl⟩
                dsimp only
                go_wp2
                go_ret
                exact ⟨rfl, (H4.out.drewN _).below⟩
end Go.Proofs.Ytfackochjlccpaa
