/- RingTrims: trimming lets just the places ahead go, or none; for every room, number, list of publishes and offset. -/
import Derived.Test.YtfackochjlccpaaWRingReady
import Derived.Test.YtfackochjlccpaaWRingOrder
namespace Go.Proofs.Ytfackochjlccpaa
open Go Go.RowKit
set_option linter.unusedVariables false
set_option linter.unusedSimpArgs false

/-- The places that were claimed so: 100, 101, .. -/
def hunL (k : Nat) : List (Int × Bool) := (List.range k).map fun (j : Nat) => (100 + (j : Int), false)
def hun (k : Nat) : List Int := (List.range k).map fun (j : Nat) => 100 + (j : Int)
theorem hunL_len (k : Nat) : (hunL k).length = k := by simp [hunL]
theorem hun_len (k : Nat) : (hun k).length = k := by simp [hun]
theorem hunL_refs (r p h k) : (⟨r, p, h, hunL k⟩ : RSt).refs = hun k := by simp [RSt.refs, hunL, hun]
theorem claim_hun {r k : Nat} (h : k < r) (h2 : r ≤ 64) : (⟨r, 0, 0, hunL k⟩ : RSt).claim (100 + k) = (((k : Int), 0, 0), ⟨r, 0, 0, hunL (k + 1)⟩) := by
  have hl := hunL_len k
  unfold RSt.claim
  dsimp only
  rw [hl, if_neg (by omega), if_neg (by omega), if_neg (by omega)]
  simp [hunL, List.range_succ]
theorem publish_refs (s : RSt) (k : Int) : (s.publish k).2.refs = s.refs := by
  unfold RSt.publish
  by_cases h : s.findE k ≠ 0
  · rw [if_pos h]
  · rw [if_neg h]
    split
    · rename_i p hp
      split
      · rfl
      · simp only [RSt.refs, List.map_set]
        apply List.ext_getElem?
        intro i
        rw [List.getElem?_set]
        split
        · rename_i he
          subst he
          obtain ⟨h1, h2⟩ := List.getElem?_eq_some_iff.1 hp
          rw [List.getElem?_map, hp, if_pos (by rw [List.length_map]; exact h1)]
          rfl
        · rfl
    · rfl
theorem refs_len (s : RSt) : s.refs.length = s.L.length := by simp [RSt.refs]
theorem hun_at {n f k : Nat} (h : k < f) (h2 : f ≤ n) : (ints ((hun n).take f))[k]? = some (.int .i64 (100 + (k : Int))) := by
  simp [ints, hun, List.getElem?_map, List.getElem?_take, h, List.getElem?_range (show k < n by omega)]

set_option maxHeartbeats 2000000 in
set_option maxRecDepth 100000 in
theorem ringTrims_walk (room nn : Int) (A : Option Addr) (len cap : Nat) (zs : List Int) (to : Int) (w : World) (h0 : (Lit.int .i64 room).wf = true) (h1 : (Lit.int .i64 nn).wf = true) (hz : zs.length = len ∧ len ≤ cap ∧ cap ≤ maxLen ∧ len * 8 ≤ 140737488351232 ∧ InI .i64 w A zs) (h2 : (Lit.int .i64 to).wf = true) :
    Calls Try.prog 6 #[.int .i64 room, .int .i64 nn, .slice A len cap, .int .i64 to] w (RetB w (.bool true)) := by
  obtain ⟨hlen, _, _, hby, hin⟩ := hz
  have hb : len ≤ 17592186043904 := by omega
  obtain ⟨q0, q1⟩ := amongI_lt room 64 (by omega)
  obtain ⟨rm, hrm⟩ : ∃ n : Nat, 1 + amongI room 64 = n := ⟨(1 + amongI room 64).toNat, by omega⟩
  have hr1 : 1 ≤ rm := by omega
  have hr2 : rm ≤ 64 := by omega
  obtain ⟨p0, p1⟩ := amongI_lt nn ((rm : Int) + 1) (by omega)
  obtain ⟨n, hn⟩ : ∃ n : Nat, amongI nn ((rm : Int) + 1) = n := ⟨(amongI nn ((rm : Int) + 1)).toNat, by omega⟩
  have hnr : n ≤ rm := by omega
  obtain ⟨t0, t1⟩ := amongI_lt to ((n : Int) + 1) (by omega)
  obtain ⟨f, hf⟩ : ∃ f : Nat, amongI to ((n : Int) + 1) = f := ⟨(amongI to ((n : Int) + 1)).toNat, by omega⟩
  have hfn : f ≤ n := by omega
  have HR := Lib.hid hrm
  have HN := Lib.hid hn
  have HF := Lib.hid hf
  have HL := Lib.hid hlen
  have HIN := Lib.hid hin
  clear hn hrm hf hlen hin h0 h1 h2 hby p0 p1 t0 t1
  go_enter Try.func6, Try.ntmps6
  go_wp2_with fail
  refine (works06 w).mono ?_
  rintro e w1 ⟨rfl, hb1⟩
  dsimp only
  have HI := Lib.hid ((Inv.refl w).grow hb1)
  clear hb1
  go_wp2_with fail
  refine (among_any room 64 (by omega) (by omega) _).mono ?_
  rintro e w' ⟨rfl, rfl⟩
  dsimp only
  go_wp2_with fail
  rw [HR.out]
  refine (among_any nn (rm + 1) (by omega) (by omega) _).mono ?_
  rintro e w' ⟨rfl, rfl⟩
  rw [HN.out]
  dsimp only
  go_wp2_with fail
  refine (ring_make HI.out rm 0 hr1 hr2 (by omega) (by omega)).mono ?_
  rintro e w2 ⟨b, rfl, hI⟩
  dsimp only
  have H2 := Lib.hid hI
  clear HI hI
  go_wp2_with fail
  go_loopw [11] (fun i wr => ∃ (k : Nat), k ≤ n ∧ i = .int .i64 k ∧ Inv w wr [RingA b ⟨rm, 0, 0, hunL k⟩]) (fun i _ => n - (intOf i).toNat)
  case atStart => exact ⟨0, Nat.zero_le _, rfl, H2.out⟩
  case round =>
    obtain ⟨k, hk, rfl, hI⟩ := hrel
    have HI := Lib.hid hI
    clear hI
    by_cases hlt : k < n
    · as_aux_lemma =>
      go_wp2_with fail
      refine (ring_claim HI.out (100 + k)).mono ?_
      rintro e w3 ⟨rfl, h3⟩
      rw [claim_hun (by omega) hr2] at h3 ⊢
      dsimp only [tri]
      have H3 := Lib.hid h3
      clear h3
      go_wp2
      go_roundw
      case rel => exact ⟨k + 1, by omega, by go_num, H3.out⟩
      case measure => simp [intOf]; omega
    · obtain rfl : k = n := by omega
      clear hlt
      as_aux_lemma =>
      go_wp2_with fail
      go_loopw [12] (fun i wr => ∃ (j : Nat) (s : RSt), (j ≤ len ∧ s.h = 0 ∧ s.refs = hun k) ∧ i = .int .i64 j ∧ Inv w wr [RingA b s]) (fun i _ => len - (intOf i).toNat)
      case atStart => exact ⟨0, _, ⟨Nat.zero_le _, rfl, hunL_refs _ _ _ _⟩, rfl, HI.out⟩
      case round =>
        obtain ⟨j, s, ⟨hj, hsh, hsr⟩, rfl, hI⟩ := hrel
        have HSH := Lib.hid hsh
        have HSR := Lib.hid hsr
        have hsl : s.L.length = k := by rw [← refs_len, hsr, hun_len]
        have hst : s.t = k := by unfold RSt.t; omega
        by_cases hlt : j < len ∧ j < 100
        · obtain ⟨hlt, h100⟩ := hlt
          as_aux_lemma =>
          obtain ⟨g, o, rfl, hc⟩ := HIN.out (by have := HL.out; omega)
          obtain ⟨z, hz⟩ : ∃ z, zs[j]? = some z := ⟨_, List.getElem?_eq_getElem (by have := HL.out; omega)⟩
          obtain ⟨ca, w0⟩ := hc j z hz
          have ca := hI.old_cell ca
          have HI := Lib.hid hI
          clear hc hz hI w0 hsh hsr hsl hst
          go_wp2_with fail
          refine (among_any z (k + 1) (by omega) (by omega) _).mono ?_
          rintro e w' ⟨rfl, rfl⟩
          dsimp only
          obtain ⟨x, hx⟩ : ∃ x, amongI z (k + 1) = x := ⟨_, rfl⟩
          rw [hx]
          clear hx
          go_wp2_with fail
          refine (ring_publish HI.out x).mono ?_
          rintro e w3 ⟨rfl, h3⟩
          dsimp only
          have H3 := Lib.hid h3
          clear h3
          go_wp2
          go_roundw
          case rel => exact ⟨j + 1, _, ⟨by omega, (publish_same s x).2.1.trans HSH.out, (publish_refs s x).trans HSR.out⟩, by go_num, H3.out⟩
          case measure => simp [intOf]; omega
        · have hcase : len ≤ j ∨ (j < len ∧ 100 ≤ j) := by omega
          clear hlt
          have e0 : s.trim f = if (s.ready 0 : Int) < f then (([], 8), s) else (((hun k).take f, 0), { s with h := f, L := s.L.drop f }) := by
            unfold RSt.trim
            rw [if_neg (by omega)]
            simp [hsh, hsr]
          obtain ⟨rd, hrd⟩ : ∃ x, s.ready 0 = x := ⟨_, rfl⟩
          rw [hrd] at e0
          have HE := Lib.hid e0
          have HRD := Lib.hid hrd
          have HSL := Lib.hid hsl
          have hrb : (rd : Int) ≤ 64 := by
            obtain ⟨q, r⟩ := ring_read hI
            have := (ready_spec s 0 (by unfold RSt.from_; split <;> omega) (by unfold RSt.from_; split <;> omega)).2.1
            omega
          have HI := Lib.hid hI
          clear hI e0 hrd hsl hsh hsr
          rcases hcase with hd | ⟨hd, hd2⟩
          all_goals
            as_aux_lemma =>
            go_wp2_with fail
            refine (among_any to (k + 1) (by omega) (by omega) _).mono ?_
            rintro e w' ⟨rfl, rfl⟩
            rw [HF.out]
            dsimp only
            go_wp2_with fail
            refine (ring_ready HI.out _).mono ?_
            rintro e w3 ⟨rfl, h3⟩
            rw [HRD.out]
            dsimp only
            have H3 := Lib.hid h3
            clear h3
            go_wp2_with fail
            refine (ring_trim H3.out _).mono ?_
            rintro e w4 ⟨A', c', rfl, h4⟩
            rw [HE.out] at h4 ⊢
            by_cases hlt : (rd : Int) < f
            · as_aux_lemma =>
              rw [if_pos hlt] at h4 ⊢
              dsimp only at h4 ⊢
              rw [List.length_nil]
              have H4 := Lib.hid h4.drop
              obtain ⟨q4, r4⟩ := ring_read H4.out
              have R4 := Lib.hid r4
              clear h4 r4
              go_wp2_with fail
              refine (ring_head R4.out).mono ?_
              rintro e w' ⟨rfl, rfl⟩
              rw [HSH.out]
              dsimp only
              go_wp2_with fail
              refine (ring_refs H4.out).mono ?_
              rintro e w5 ⟨A5, c5, rfl, h5⟩
              rw [HSL.out]
              dsimp only
              have H5 := Lib.hid h5
              clear h5
              go_wp2
              go_ret
              exact ⟨rfl, H5.out.below⟩
            · as_aux_lemma =>
              rw [if_neg hlt] at h4 ⊢
              dsimp only at h4 ⊢
              have hlen : ((hun k).take f).length = f := by rw [List.length_take, hun_len]; omega
              rw [hlen] at h4 ⊢
              have H4 := Lib.hid h4
              clear h4 hlen
              go_wp2_with fail
              go_loopw [16] (fun i wr => ∃ (m : Nat), m ≤ f ∧ i = .int .i64 m ∧ wr = w4) (fun i _ => f - (intOf i).toNat)
              case atStart => exact ⟨0, Nat.zero_le _, rfl, rfl⟩
              case round =>
                obtain ⟨m, hm, rfl, rfl⟩ := hrel
                by_cases hmf : m < f
                · as_aux_lemma =>
                  obtain ⟨g, rfl, hcl⟩ := row_cell H4.out (hun_at hmf hfn)
                  go_wp2_with fail
                  go_wp2
                  go_roundw
                  case rel => exact ⟨m + 1, by omega, by go_num, trivial⟩
                  case measure => simp [intOf]; omega
                · obtain rfl : m = f := by omega
                  obtain ⟨q4, r4⟩ := ring_read H4.out.pull1
                  have R4 := Lib.hid r4
                  clear r4 hmf
                  have hsz : (⟨s.n, s.pol, m, s.L.drop m⟩ : RSt).t = k := by have := HSL.out; unfold RSt.t; simp; omega
                  by_cases hm0 : m = 0
                  · as_aux_lemma =>
                    subst hm0
                    obtain ⟨x, y, hxy⟩ : ∃ x y, (⟨s.n, s.pol, 0, s.L.drop 0⟩ : RSt).get (-1) = (x, y) := ⟨_, _, rfl⟩
                    go_wp2_with fail
                    refine (ring_get R4.out (-1)).mono ?_
                    rintro e w5 ⟨rfl, m5, rfl⟩
                    rw [hxy]
                    dsimp only [duo]
                    have R5 := Lib.hid (R4.out.of (below_drewN' _ m5))
                    clear hxy
                    go_wp2_with fail
                    refine (ring_head R5.out).mono ?_
                    rintro e w' ⟨rfl, rfl⟩
                    dsimp only
                    go_wp2_with fail
                    refine (ring_tail R5.out).mono ?_
                    rintro e w' ⟨rfl, rfl⟩
                    rw [hsz]
                    dsimp only
                    go_wp2
                    go_ret
                    exact ⟨rfl, (H4.out.drewN _).below⟩
                  · as_aux_lemma =>
                    have hxy : (⟨s.n, s.pol, m, s.L.drop m⟩ : RSt).get ((m : Int) - 1) = (0, 61) := by
                      have : (⟨s.n, s.pol, m, s.L.drop m⟩ : RSt).findE ((m : Int) - 1) = 61 := by
                        unfold RSt.findE
                        rw [if_neg (by omega), if_pos (by dsimp only; omega)]
                      unfold RSt.get
                      rw [this]
                      rfl
                    go_wp2_with fail
                    refine (ring_get R4.out (m - 1)).mono ?_
                    rintro e w5 ⟨rfl, m5, rfl⟩
                    rw [hxy]
                    dsimp only [duo]
                    have R5 := Lib.hid (R4.out.of (below_drewN' _ m5))
                    clear hxy
                    go_wp2_with fail
                    refine (ring_head R5.out).mono ?_
                    rintro e w' ⟨rfl, rfl⟩
                    dsimp only
                    go_wp2_with fail
                    refine (ring_tail R5.out).mono ?_
                    rintro e w' ⟨rfl, rfl⟩
                    rw [hsz]
                    dsimp only
                    go_wp2
                    go_ret
                    exact ⟨rfl, (H4.out.drewN _).below⟩
end Go.Proofs.Ytfackochjlccpaa
