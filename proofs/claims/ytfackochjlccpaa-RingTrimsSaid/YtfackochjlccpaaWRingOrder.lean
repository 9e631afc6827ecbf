/- RingOrder: offsets are given one behind the other, whatever goes, and the window never has more places than there is room for; for every room, policy and list of acts. -/
import Derived.Test.YtfackochjlccpaaL06
import Derived.Test.YtfackochjlccpaaOpen
namespace Go.Proofs.Ytfackochjlccpaa
open Go Go.RowKit
set_option linter.unusedVariables false
set_option linter.unusedSimpArgs false

theorem claim_cases (s : RSt) (ref : Int) :
    ((s.claim ref).1.2.2 ≠ 0 ∧ (s.claim ref).1.1 = 0 ∧ (s.claim ref).1.2.1 = 0 ∧ (s.claim ref).2 = s) ∨
    ((s.claim ref).1.2.2 = 0 ∧ (s.claim ref).1.1 = s.t ∧ (s.claim ref).2.t = s.t + 1 ∧ s.h ≤ (s.claim ref).2.h ∧ (s.claim ref).2.n = s.n ∧ (s.claim ref).2.pol = s.pol ∧ (s.pol = 0 → (s.claim ref).1.2.1 = 0 ∧ (s.claim ref).2.h = s.h)) := by
  unfold RSt.claim
  by_cases h1 : ref < 1
  · simp [h1]
  by_cases h2 : 1099511627776 ≤ s.h + s.L.length
  · simp [h1, h2]
  by_cases h3 : s.L.length = s.n
  · rw [if_neg h1, if_neg h2, if_pos h3]
    cases hL : s.L with
    | nil => simp
    | cons p L =>
      simp only
      by_cases hp : s.pol = 0 ∨ p.2 = false
      · rw [if_pos hp]; simp
      · rw [if_neg hp]
        refine .inr ⟨rfl, by simp [RSt.t, hL], by simp [RSt.t, hL]; omega, Nat.le_succ _, rfl, rfl, fun h => absurd (.inl h) hp⟩
  · rw [if_neg h1, if_neg h2, if_neg h3]
    exact .inr ⟨rfl, by simp [RSt.t], by simp [RSt.t]; omega, Nat.le_refl _, rfl, rfl, fun _ => ⟨rfl, rfl⟩⟩
theorem publish_same (s : RSt) (k : Int) : (s.publish k).2.t = s.t ∧ (s.publish k).2.h = s.h ∧ (s.publish k).2.n = s.n ∧ (s.publish k).2.pol = s.pol := by
  unfold RSt.publish
  by_cases h : s.findE k ≠ 0
  · rw [if_pos h]; exact ⟨rfl, rfl, rfl, rfl⟩
  · rw [if_neg h]
    split
    · split
      · exact ⟨rfl, rfl, rfl, rfl⟩
      · exact ⟨by simp [RSt.t], rfl, rfl, rfl⟩
    · exact ⟨rfl, rfl, rfl, rfl⟩
theorem trim_same (s : RSt) (to : Int) : (s.trim to).2.t = s.t ∧ s.h ≤ (s.trim to).2.h ∧ (s.trim to).2.n = s.n ∧ (s.trim to).2.pol = s.pol := by
  unfold RSt.trim
  by_cases h : to < 0 ∨ (s.t : Int) < to
  · rw [if_pos h]; exact ⟨rfl, Nat.le_refl _, rfl, rfl⟩
  · rw [if_neg h]
    by_cases h2 : (s.ready s.h : Int) < to
    · rw [if_pos h2]; exact ⟨rfl, Nat.le_refl _, rfl, rfl⟩
    · rw [if_neg h2]
      exact ⟨by simp [RSt.t] at h ⊢; omega, Nat.le_add_right _ _, rfl, rfl⟩

set_option maxHeartbeats 2000000 in
set_option maxRecDepth 100000 in
theorem ringOrder_walk (room pol : Int) (A : Option Addr) (len cap : Nat) (zs : List (Int × Int)) (w : World) (h0 : (Lit.int .i64 room).wf = true) (h1 : (Lit.int .i64 pol).wf = true) (hz : zs.length = len ∧ len ≤ cap ∧ cap ≤ maxLen ∧ len * 16 ≤ 140737488351232 ∧ In2 w A zs) :
    Calls Try.prog 4 #[.int .i64 room, .int .i64 pol, .slice A len cap] w (RetB w (.bool true)) := by
  obtain ⟨hlen, _, _, hby, hin⟩ := hz
  have hb : len ≤ 8796093022000 := by omega
  have r1 := amongI_lt room 64 (by omega)
  have r2 := amongI_lt pol 2 (by omega)
  obtain ⟨n, hn⟩ : ∃ n : Nat, 1 + amongI room 64 = n := ⟨(1 + amongI room 64).toNat, by omega⟩
  obtain ⟨p, hp⟩ : ∃ p, amongI pol 2 = p := ⟨_, rfl⟩
  rw [hp] at r2
  have hn1 : 1 ≤ n := by omega
  have hn2 : n ≤ 64 := by omega
  have HP := Lib.hid hp
  have HN := Lib.hid hn
  have HL := Lib.hid hlen
  have HIN := Lib.hid hin
  obtain ⟨p0, p1⟩ := r2
  obtain ⟨q0, q1⟩ := r1
  clear hp hn hlen hin h0 h1 hby
  go_enter Try.func4, Try.ntmps4
  go_wp2_with fail
  refine (works06 w).mono ?_
  rintro e w1 ⟨rfl, hb1⟩
  dsimp only
  have HI := Lib.hid ((Inv.refl w).grow hb1)
  clear hb1
  go_wp2_with fail
  refine (among_any room 64 (by omega) (by omega) _).mono ?_
  rintro e w' ⟨rfl, rfl⟩
  dsimp only
  go_wp2_with fail
  refine (among_any pol 2 (by omega) (by omega) _).mono ?_
  rintro e w' ⟨rfl, rfl⟩
  rw [HP.out]
  dsimp only
  go_wp2_with fail
  rw [HN.out]
  refine (ring_make HI.out n p hn1 hn2 p0 (by omega)).mono ?_
  rintro e w2 ⟨b, rfl, hI⟩
  dsimp only
  have H2 := Lib.hid hI
  clear HI hI
  go_wp2_with fail
  go_loopw [9, 10] (fun nx i wr => ∃ (k : Nat) (s : RSt), (k ≤ len ∧ s.n = n ∧ s.pol = p) ∧ i = .int .i64 k ∧ nx = .int .i64 s.t ∧ Inv w wr [RingA b s]) (fun _ i _ => len - (intOf i).toNat)
  case atStart => exact ⟨0, _, ⟨Nat.zero_le _, rfl, rfl⟩, rfl, rfl, H2.out⟩
  case round =>
    obtain ⟨k, s, ⟨hk, hsn, hsp⟩, rfl, rfl, hI⟩ := hrel
    by_cases hlt : k < len
    · by_cases h200 : k < 200
      · obtain ⟨g, o, rfl, hc⟩ := HIN.out (by have := HL.out; omega)
        obtain ⟨z, hz⟩ : ∃ z, zs[k]? = some z := ⟨_, List.getElem?_eq_getElem (by have := HL.out; omega)⟩
        obtain ⟨⟨ca, cb⟩, _, _⟩ := hc k z hz
        have ca := hI.old_cell ca
        have cb := hI.old_cell cb
        have hA := (hI.alloc (.cells #[.int .i64 z.1, .int .i64 z.2] 30))
        obtain ⟨ab, hab⟩ : ∃ x, wr.heap.size = x := ⟨_, rfl⟩
        have HSN := Lib.hid hsn
        have HSP := Lib.hid hsp
        have HAB := Lib.hid hab
        clear hc hz hsn hsp hab
        have hk1 : k ≤ 200 := by omega
        go_wp2_with fail
        rw [HAB.out] at hA ⊢
        obtain ⟨wa, hwa⟩ : ∃ x, wr.alloc (.cells #[.int .i64 z.1, .int .i64 z.2] 30) = x := ⟨_, rfl⟩
        rw [hwa] at hA ⊢
        obtain ⟨q, r⟩ := ring_read hA.pull1
        have ca := hA.cell (off := 0) (v := .int .i64 z.1) rfl
        have cb := hA.cell (off := 1) (v := .int .i64 z.2) rfl
        have HA := Lib.hid hA
        have RR := Lib.hid r
        have htT := (RSt.ne_of r.ok).1
        clear r hI hA hwa
        refine (ring_head RR.out).mono ?_
        rintro e w' ⟨rfl, rfl⟩
        dsimp only
        go_wp2_with fail
        refine (among_any z.1 8 (by omega) (by omega) _).mono ?_
        rintro e w' ⟨rfl, rfl⟩
        dsimp only
        obtain ⟨d, hd⟩ : ∃ d, amongI z.1 8 = d := ⟨_, rfl⟩
        rw [hd]
        clear hd
        by_cases d6 : d = 6
        · subst d6
          as_aux_lemma =>
          go_wp2_with fail
          refine (among_any z.2 (s.t + 1) (by omega) (by omega) _).mono ?_
          rintro e w' ⟨rfl, rfl⟩
          dsimp only
          obtain ⟨x, hx⟩ : ∃ x, amongI z.2 (s.t + 1) = x := ⟨_, rfl⟩
          rw [hx]
          clear hx
          go_wp2_with fail
          refine (ring_trim HA.out.pull1 x).mono ?_
          rintro e w3 ⟨A', c', rfl, h3⟩
          dsimp only
          obtain ⟨e1, e2, e3, e4⟩ := trim_same s x
          have H3 := Lib.hid h3.drop
          obtain ⟨sp, hsp⟩ : ∃ y, (s.trim x).2 = y := ⟨_, rfl⟩
          rw [hsp] at e1 e2 e3 e4 H3
          rw [← e1]
          have HSN' := Lib.hid (e3.trans HSN.out)
          have HSP' := Lib.hid (e4.trans HSP.out)
          have HHH := Lib.hid e2
          clear h3 e1 e2 e3 e4 hsp
          obtain ⟨q', r'⟩ := ring_read H3.out
          have hok := r'.ok
          have hlim : sp.h ≤ sp.t ∧ sp.t ≤ 1099511627776 := ⟨(RSt.ne_of hok).2.1, (RSt.ne_of hok).1⟩
          have hroom : (sp.t : Int) - sp.h ≤ n := by have := hok.len; have := HSN'.out; unfold RSt.t; omega
          obtain ⟨hl1, hl2⟩ := hlim
          have R' := Lib.hid r'
          have hhh := HHH.out
          clear r' hok
          go_wp2_with fail
          refine (ring_tail R'.out).mono ?_
          rintro e w' ⟨rfl, rfl⟩
          dsimp only
          have hbe : ((sp.t : Int) != (sp.t : Int)) = false := by simp
          go_wp2_with fail
          refine (ring_tail R'.out).mono ?_
          rintro e w' ⟨rfl, rfl⟩
          dsimp only
          go_wp2_with fail
          refine (ring_head R'.out).mono ?_
          rintro e w' ⟨rfl, rfl⟩
          dsimp only
          have hbr : decide ((n : Int) < (sp.t : Int) - sp.h) = false := by rw [decide_eq_false_iff_not]; omega
          go_wp2_with fail
          refine (ring_head R'.out).mono ?_
          rintro e w' ⟨rfl, rfl⟩
          dsimp only
          have hbh : decide ((sp.h : Int) < s.h) = false := by rw [decide_eq_false_iff_not]; omega
          go_wp2
          go_roundw
          case rel => exact ⟨k + 1, sp, ⟨by omega, HSN'.out, HSP'.out⟩, by go_num, rfl, H3.out.pull1.drop⟩
          case measure => simp [intOf]; omega
        by_cases d345 : d = 3 ∨ d = 4 ∨ d = 5
        · as_aux_lemma =>
          rcases d345 with rfl | rfl | rfl
          all_goals
            go_wp2_with fail
            refine (among_any z.2 (s.t + 1) (by omega) (by omega) _).mono ?_
            rintro e w' ⟨rfl, rfl⟩
            dsimp only
            obtain ⟨x, hx⟩ : ∃ x, amongI z.2 (s.t + 1) = x := ⟨_, rfl⟩
            rw [hx]
            clear hx
            go_wp2_with fail
            refine (ring_publish HA.out.pull1 x).mono ?_
            rintro e w3 ⟨rfl, h3⟩
            dsimp only
            obtain ⟨e1, e2, e3, e4⟩ := publish_same s x
            have H3 := Lib.hid h3
            obtain ⟨sp, hsp⟩ : ∃ y, (s.publish x).2 = y := ⟨_, rfl⟩
            rw [hsp] at e1 e2 e3 e4 H3
            rw [← e1]
            have HSN' := Lib.hid (e3.trans HSN.out)
            have HSP' := Lib.hid (e4.trans HSP.out)
            have HHH := Lib.hid (Nat.le_of_eq e2.symm)
            clear h3 e1 e2 e3 e4 hsp
            obtain ⟨q', r'⟩ := ring_read H3.out
            have hok := r'.ok
            have hlim : sp.h ≤ sp.t ∧ sp.t ≤ 1099511627776 := ⟨(RSt.ne_of hok).2.1, (RSt.ne_of hok).1⟩
            have hroom : (sp.t : Int) - sp.h ≤ n := by have := hok.len; have := HSN'.out; unfold RSt.t; omega
            obtain ⟨hl1, hl2⟩ := hlim
            have R' := Lib.hid r'
            have hhh := HHH.out
            clear r' hok
            go_wp2_with fail
            refine (ring_tail R'.out).mono ?_
            rintro e w' ⟨rfl, rfl⟩
            dsimp only
            have hbe : ((sp.t : Int) != (sp.t : Int)) = false := by simp
            go_wp2_with fail
            refine (ring_tail R'.out).mono ?_
            rintro e w' ⟨rfl, rfl⟩
            dsimp only
            go_wp2_with fail
            refine (ring_head R'.out).mono ?_
            rintro e w' ⟨rfl, rfl⟩
            dsimp only
            have hbr : decide ((n : Int) < (sp.t : Int) - sp.h) = false := by rw [decide_eq_false_iff_not]; omega
            go_wp2_with fail
            refine (ring_head R'.out).mono ?_
            rintro e w' ⟨rfl, rfl⟩
            dsimp only
            have hbh : decide ((sp.h : Int) < s.h) = false := by rw [decide_eq_false_iff_not]; omega
            go_wp2
            go_roundw
            case rel => exact ⟨k + 1, sp, ⟨by omega, HSN'.out, HSP'.out⟩, by go_num, rfl, H3.out.pull1.drop⟩
            case measure => simp [intOf]; omega
        · have b6 : (d == 6) = false := by rw [beq_eq_false_iff_ne]; exact d6
          have b3 : (d == 3) = false := by rw [beq_eq_false_iff_ne]; omega
          have b4 : (d == 4) = false := by rw [beq_eq_false_iff_ne]; omega
          have b5 : (d == 5) = false := by rw [beq_eq_false_iff_ne]; omega
          clear d6 d345
          have y0 := amongI_lt z.2 1000 (by omega)
          obtain ⟨y, hy⟩ : ∃ y, amongI z.2 1000 = y := ⟨_, rfl⟩
          rw [hy] at y0
          obtain ⟨y1, y2⟩ := y0
          have HY := Lib.hid hy
          clear hy
          go_wp2_with fail
          refine (among_any z.2 1000 (by omega) (by omega) _).mono ?_
          rintro e w' ⟨rfl, rfl⟩
          rw [HY.out]
          dsimp only
          go_wp2_with fail
          refine (ring_claim HA.out.pull1 (1 + y)).mono ?_
          rintro e w3 ⟨rfl, h3⟩
          dsimp only [tri]
          have hcc := claim_cases s (1 + y)
          have H3 := Lib.hid h3
          obtain ⟨sp, hsp⟩ : ∃ x, (s.claim (1 + y)).2 = x := ⟨_, rfl⟩
          obtain ⟨at_, hat⟩ : ∃ x, (s.claim (1 + y)).1.1 = x := ⟨_, rfl⟩
          obtain ⟨went, hwe⟩ : ∃ x, (s.claim (1 + y)).1.2.1 = x := ⟨_, rfl⟩
          obtain ⟨er, her⟩ : ∃ x, (s.claim (1 + y)).1.2.2 = x := ⟨_, rfl⟩
          rw [hsp, hat, hwe, her] at hcc
          rw [hsp] at H3
          rw [hat, hwe, her]
          clear h3 hsp hat hwe her
          rcases hcc with ⟨e1, rfl, rfl, rfl⟩ | ⟨rfl, rfl, e3, e4, e5, e6, e7⟩
          · as_aux_lemma =>
            have be : (er == 0) = false := by rw [beq_eq_false_iff_ne]; exact e1
            clear e1
            have HSN' := HSN
            have HSP' := HSP
            have HHH := Lib.hid (Nat.le_refl sp.h)
            by_cases hp0 : p = 0
            · have bp : (p == 0) = true := by rw [beq_iff_eq]; exact hp0
              clear hp0
              obtain ⟨q2, r2⟩ := ring_read H3.out
              have R2 := Lib.hid r2
              clear r2
              go_wp2_with fail
              refine (ring_head R2.out).mono ?_
              rintro e w' ⟨rfl, rfl⟩
              dsimp only
              have hbn : ((sp.h : Int) != (sp.h : Int)) = false := by simp
              obtain ⟨q', r'⟩ := ring_read H3.out
              have hok := r'.ok
              have hlim : sp.h ≤ sp.t ∧ sp.t ≤ 1099511627776 := ⟨(RSt.ne_of hok).2.1, (RSt.ne_of hok).1⟩
              have hroom : (sp.t : Int) - sp.h ≤ n := by have := hok.len; have := HSN'.out; unfold RSt.t; omega
              obtain ⟨hl1, hl2⟩ := hlim
              have R' := Lib.hid r'
              have hhh := HHH.out
              clear r' hok
              go_wp2_with fail
              refine (ring_tail R'.out).mono ?_
              rintro e w' ⟨rfl, rfl⟩
              dsimp only
              have hbe : ((sp.t : Int) != (sp.t : Int)) = false := by simp
              go_wp2_with fail
              refine (ring_tail R'.out).mono ?_
              rintro e w' ⟨rfl, rfl⟩
              dsimp only
              go_wp2_with fail
              refine (ring_head R'.out).mono ?_
              rintro e w' ⟨rfl, rfl⟩
              dsimp only
              have hbr : decide ((n : Int) < (sp.t : Int) - sp.h) = false := by rw [decide_eq_false_iff_not]; omega
              go_wp2_with fail
              refine (ring_head R'.out).mono ?_
              rintro e w' ⟨rfl, rfl⟩
              dsimp only
              have hbh : decide ((sp.h : Int) < sp.h) = false := by rw [decide_eq_false_iff_not]; omega
              go_wp2
              go_roundw
              case rel => exact ⟨k + 1, sp, ⟨by omega, HSN'.out, HSP'.out⟩, by go_num, rfl, H3.out.pull1.drop⟩
              case measure => simp [intOf]; omega
            · have bp : (p == 0) = false := by rw [beq_eq_false_iff_ne]; exact hp0
              clear hp0
              obtain ⟨q', r'⟩ := ring_read H3.out
              have hok := r'.ok
              have hlim : sp.h ≤ sp.t ∧ sp.t ≤ 1099511627776 := ⟨(RSt.ne_of hok).2.1, (RSt.ne_of hok).1⟩
              have hroom : (sp.t : Int) - sp.h ≤ n := by have := hok.len; have := HSN'.out; unfold RSt.t; omega
              obtain ⟨hl1, hl2⟩ := hlim
              have R' := Lib.hid r'
              have hhh := HHH.out
              clear r' hok
              go_wp2_with fail
              refine (ring_tail R'.out).mono ?_
              rintro e w' ⟨rfl, rfl⟩
              dsimp only
              have hbe : ((sp.t : Int) != (sp.t : Int)) = false := by simp
              go_wp2_with fail
              refine (ring_tail R'.out).mono ?_
              rintro e w' ⟨rfl, rfl⟩
              dsimp only
              go_wp2_with fail
              refine (ring_head R'.out).mono ?_
              rintro e w' ⟨rfl, rfl⟩
              dsimp only
              have hbr : decide ((n : Int) < (sp.t : Int) - sp.h) = false := by rw [decide_eq_false_iff_not]; omega
              go_wp2_with fail
              refine (ring_head R'.out).mono ?_
              rintro e w' ⟨rfl, rfl⟩
              dsimp only
              have hbh : decide ((sp.h : Int) < sp.h) = false := by rw [decide_eq_false_iff_not]; omega
              go_wp2
              go_roundw
              case rel => exact ⟨k + 1, sp, ⟨by omega, HSN'.out, HSP'.out⟩, by go_num, rfl, H3.out.pull1.drop⟩
              case measure => simp [intOf]; omega
          · as_aux_lemma =>
            have hbt : ((s.t : Int) != (s.t : Int)) = false := by simp
            have HSN' := Lib.hid (e5.trans HSN.out)
            have HSP' := Lib.hid (e6.trans HSP.out)
            have HHH := Lib.hid e4
            have E3 := Lib.hid e3
            have E7 := Lib.hid e7
            clear e3 e4 e5 e6 e7
            by_cases hp0 : p = 0
            · have bp : (p == 0) = true := by rw [beq_iff_eq]; exact hp0
              obtain ⟨rfl, f2⟩ := E7.out (HSP.out.trans hp0)
              have F2 := Lib.hid f2
              clear hp0 f2
              obtain ⟨q2, r2⟩ := ring_read H3.out
              have R2 := Lib.hid r2
              clear r2
              go_wp2_with fail
              refine (ring_head R2.out).mono ?_
              rintro e w' ⟨rfl, rfl⟩
              dsimp only
              have hbn : ((sp.h : Int) != (s.h : Int)) = false := by rw [F2.out]; simp
              have hcast : ((s.t : Int) + 1) = (sp.t : Int) := by have := E3.out; omega
              rw [hcast]
              clear hcast
              obtain ⟨q', r'⟩ := ring_read H3.out
              have hok := r'.ok
              have hlim : sp.h ≤ sp.t ∧ sp.t ≤ 1099511627776 := ⟨(RSt.ne_of hok).2.1, (RSt.ne_of hok).1⟩
              have hroom : (sp.t : Int) - sp.h ≤ n := by have := hok.len; have := HSN'.out; unfold RSt.t; omega
              obtain ⟨hl1, hl2⟩ := hlim
              have R' := Lib.hid r'
              have hhh := HHH.out
              clear r' hok
              go_wp2_with fail
              refine (ring_tail R'.out).mono ?_
              rintro e w' ⟨rfl, rfl⟩
              dsimp only
              have hbe : ((sp.t : Int) != (sp.t : Int)) = false := by simp
              go_wp2_with fail
              refine (ring_tail R'.out).mono ?_
              rintro e w' ⟨rfl, rfl⟩
              dsimp only
              go_wp2_with fail
              refine (ring_head R'.out).mono ?_
              rintro e w' ⟨rfl, rfl⟩
              dsimp only
              have hbr : decide ((n : Int) < (sp.t : Int) - sp.h) = false := by rw [decide_eq_false_iff_not]; omega
              go_wp2_with fail
              refine (ring_head R'.out).mono ?_
              rintro e w' ⟨rfl, rfl⟩
              dsimp only
              have hbh : decide ((sp.h : Int) < s.h) = false := by rw [decide_eq_false_iff_not]; omega
              go_wp2
              go_roundw
              case rel => exact ⟨k + 1, sp, ⟨by omega, HSN'.out, HSP'.out⟩, by go_num, rfl, H3.out.pull1.drop⟩
              case measure => simp [intOf]; omega
            · have bp : (p == 0) = false := by rw [beq_eq_false_iff_ne]; exact hp0
              clear hp0
              have hcast : ((s.t : Int) + 1) = (sp.t : Int) := by have := E3.out; omega
              have HC := Lib.hid hcast
              clear hcast
              obtain ⟨q', r'⟩ := ring_read H3.out
              have hok := r'.ok
              have hlim : sp.h ≤ sp.t ∧ sp.t ≤ 1099511627776 := ⟨(RSt.ne_of hok).2.1, (RSt.ne_of hok).1⟩
              have hroom : (sp.t : Int) - sp.h ≤ n := by have := hok.len; have := HSN'.out; unfold RSt.t; omega
              obtain ⟨hl1, hl2⟩ := hlim
              have R' := Lib.hid r'
              have hhh := HHH.out
              clear r' hok
              go_wp2_with fail
              rw [HC.out]
              refine (ring_tail R'.out).mono ?_
              rintro e w' ⟨rfl, rfl⟩
              dsimp only
              have hbe : ((sp.t : Int) != (sp.t : Int)) = false := by simp
              go_wp2_with fail
              refine (ring_tail R'.out).mono ?_
              rintro e w' ⟨rfl, rfl⟩
              dsimp only
              go_wp2_with fail
              refine (ring_head R'.out).mono ?_
              rintro e w' ⟨rfl, rfl⟩
              dsimp only
              have hbr : decide ((n : Int) < (sp.t : Int) - sp.h) = false := by rw [decide_eq_false_iff_not]; omega
              go_wp2_with fail
              refine (ring_head R'.out).mono ?_
              rintro e w' ⟨rfl, rfl⟩
              dsimp only
              have hbh : decide ((sp.h : Int) < s.h) = false := by rw [decide_eq_false_iff_not]; omega
              go_wp2
              go_roundw
              case rel => exact ⟨k + 1, sp, ⟨by omega, HSN'.out, HSP'.out⟩, by go_num, rfl, H3.out.pull1.drop⟩
              case measure => simp [intOf]; omega
      · have hd : decide ((k : Int) < 200) = false := by rw [decide_eq_false_iff_not]; omega
        clear hsn hsp
        have HI := Lib.hid hI
        clear hI
        go_wp2
        go_ret
        exact ⟨rfl, HI.out.below⟩
    · have hd : decide ((k : Int) < (len : Int)) = false := by rw [decide_eq_false_iff_not]; omega
      clear hsn hsp
      have HI := Lib.hid hI
      clear hI
      go_wp2
      go_ret
      exact ⟨rfl, HI.out.below⟩
end Go.Proofs.Ytfackochjlccpaa
