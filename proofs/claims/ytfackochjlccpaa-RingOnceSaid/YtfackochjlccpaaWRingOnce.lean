/- RingOnce: a reference that was claimed is got at its offset, as soon as it is published, till it goes; each that was claimed is in the window, or went, just once. -/
import Derived.Test.YtfackochjlccpaaL06
import Derived.Test.YtfackochjlccpaaOnce
import Derived.Test.YtfackochjlccpaaOpen
import Derived.Test.YtfackochjlccpaaInfo
namespace Go.Proofs.Ytfackochjlccpaa
open Go Go.RowKit
set_option linter.unusedVariables false
set_option linter.unusedSimpArgs false
theorem boolInfo : (Try.prog.info? 4).map (fun i => (i.zero, i.size, i.bytes)) = some (some (.bool false), 1, 1) := by kernel_rfl
theorem bools_one (l : List Bool) : ∀ u ∈ bools l, u.oneCell' = true := by
  intro u hu
  simp [bools] at hu
  rcases hu with ⟨_, rfl⟩ | ⟨_, rfl⟩ <;> rfl
set_option maxHeartbeats 2000000 in
set_option maxRecDepth 100000 in
theorem ringOnce_walk (room pol : Int) (A : Option Addr) (len cap : Nat) (zs : List (Int × Int)) (w : World) (h0 : (Lit.int .i64 room).wf = true) (h1 : (Lit.int .i64 pol).wf = true) (hz : zs.length = len ∧ len ≤ cap ∧ cap ≤ maxLen ∧ len * 16 ≤ 140737488351232 ∧ In2 w A zs) :
    Calls Try.prog 5 #[.int .i64 room, .int .i64 pol, .slice A len cap] w (RetB w (.bool true)) := by
  obtain ⟨hlen, _, _, hby, hin⟩ := hz
  have hb : len ≤ 8796093022000 := by omega
  have r1 := amongI_lt room 64 (by omega)
  have r2 := amongI_lt pol 2 (by omega)
  obtain ⟨n, hn⟩ : ∃ n : Nat, 1 + amongI room 64 = n := ⟨(1 + amongI room 64).toNat, by omega⟩
  obtain ⟨p, hp⟩ : ∃ p, amongI pol 2 = p := ⟨_, rfl⟩
  rw [hp] at r2
  have hn1 : 1 ≤ n := by omega
  have hn2 : n ≤ 64 := by omega
  have HP := Lib.hid hp
  have HN := Lib.hid hn
  have HL := Lib.hid hlen
  have HIN := Lib.hid hin
  obtain ⟨p0, p1⟩ := r2
  obtain ⟨q0, q1⟩ := r1
  clear hp hn hlen hin h0 h1 hby
  go_enter Try.func5, Try.ntmps5
  go_wp2_with fail
  refine (works06 w).mono ?_
  rintro e w1 ⟨rfl, hb1⟩
  dsimp only
  have HI := Lib.hid ((Inv.refl w).grow hb1)
  clear hb1
  go_wp2_with fail
  refine (among_any room 64 (by omega) (by omega) _).mono ?_
  rintro e w' ⟨rfl, rfl⟩
  dsimp only
  go_wp2_with fail
  refine (among_any pol 2 (by omega) (by omega) _).mono ?_
  rintro e w' ⟨rfl, rfl⟩
  rw [HP.out]
  dsimp only
  go_wp2_with fail
  rw [HN.out]
  refine (ring_make HI.out n p hn1 hn2 p0 (by omega)).mono ?_
  rintro e w2 ⟨b, rfl, hI⟩
  dsimp only
  have h4 : Inv w (w2.alloc (.cells #[] 3)) (RowA 3 1 (some ⟨w2.heap.size, 0, none⟩) 0 0 [] :: _) := row_mk (hI.alloc (.cells #[] 3)) (Nat.le_refl 0) (by decide) (by simp) (by simp)
  have h5 : Inv w ((w2.alloc (.cells #[] 3)).alloc (.cells #[] 4)) (RowA 4 1 (some ⟨(w2.alloc (.cells #[] 3)).heap.size, 0, none⟩) 0 0 [] :: _) := row_mk (h4.alloc (.cells #[] 4)) (Nat.le_refl 0) (by decide) (by simp) (by simp)
  rw [show (w2.alloc (.cells #[] 3)).heap.size = w2.heap.size + 1 by simp] at h5
  have H2 := Lib.hid h5.pull1
  clear HI hI h4 h5
  go_wp2_with fail
  go_loopw [9, 10, 11, 12] (fun ga da nx i wr => ∃ (k : Nat) (s : RSt) (ds : List Bool) (A1 A2 : Option Addr) (c1 c2 : Nat), k ≤ len ∧ ga = .slice A1 s.h c1 ∧ da = .slice A2 s.t c2 ∧ nx = .int .i64 s.t ∧ i = .int .i64 k ∧ Hid (OnceP s ds) ∧ Inv w wr [RowA 3 1 A1 s.h c1 (ints (upto s.h)), RowA 4 1 A2 s.t c2 (bools ds), RingA b s]) (fun _ _ _ i _ => len - (intOf i).toNat)
  case atStart => exact ⟨0, _, [], _, _, 0, 0, Nat.zero_le _, rfl, rfl, rfl, rfl, Lib.hid (once_new _ _), H2.out⟩
  case round =>
    obtain ⟨k, s, ds, A1, A2, c1, c2, hk, rfl, rfl, rfl, rfl, hON, hI⟩ := hrel
    clear H2
    by_cases hlt : k < len
    · by_cases h200 : k < 150
      · obtain ⟨g0, o0, rfl, hc⟩ := HIN.out (by have := HL.out; omega)
        obtain ⟨z, hz⟩ : ∃ z, zs[k]? = some z := ⟨_, List.getElem?_eq_getElem (by have := HL.out; omega)⟩
        obtain ⟨⟨ca, cb⟩, _, _⟩ := hc k z hz
        have ca := hI.old_cell ca
        have cb := hI.old_cell cb
        have hA := (hI.alloc (.cells #[.int .i64 z.1, .int .i64 z.2] 30))
        have ca2 := hA.cell (off := 0) (v := .int .i64 z.1) rfl
        obtain ⟨ab, hab⟩ : ∃ x, wr.heap.size = x := ⟨_, rfl⟩
        have HAB := Lib.hid hab
        clear hc hz hab
        have hk1 : k ≤ 200 := by omega
        obtain ⟨hlim1, hlim2, hlim3⟩ : s.t ≤ 1099511627776 ∧ s.h ≤ s.t ∧ s.h ≤ 1099511627776 := by
          obtain ⟨q, r⟩ := ring_read hI.pull2
          exact RSt.ne_of r.ok
        go_wp2_with fail
        rw [HAB.out] at hA ⊢
        clear ca2
        obtain ⟨wa, hwa⟩ : ∃ x, wr.alloc (.cells #[.int .i64 z.1, .int .i64 z.2] 30) = x := ⟨_, rfl⟩
        rw [hwa] at hA ⊢
        have ca := hA.cell (off := 0) (v := .int .i64 z.1) rfl
        have cb := hA.cell (off := 1) (v := .int .i64 z.2) rfl
        have HA := Lib.hid hA
        clear hI hA hwa
        refine (among_any z.1 8 (by omega) (by omega) _).mono ?_
        rintro e w' ⟨rfl, rfl⟩
        dsimp only
        obtain ⟨d, hd⟩ : ∃ d, amongI z.1 8 = d := ⟨_, rfl⟩
        rw [hd]
        clear hd
        by_cases d6 : d = 6
        · subst d6
          as_aux_lemma =>
          go_wp2_with fail
          refine (among_any z.2 (s.t + 1) (by omega) (by omega) _).mono ?_
          rintro e w' ⟨rfl, rfl⟩
          dsimp only
          obtain ⟨x, hx⟩ : ∃ x, amongI z.2 (s.t + 1) = x := ⟨_, rfl⟩
          rw [hx]
          clear hx
          go_wp2_with fail
          refine (ring_trim HA.out.pull3 x).mono ?_
          rintro e w3 ⟨A', c', rfl, h3⟩
          dsimp only
          obtain ⟨e1, e2, e3, e4⟩ := once_trim hON.out x
          obtain ⟨sp, hsp⟩ : ∃ y, (s.trim x).2 = y := ⟨_, rfl⟩
          obtain ⟨l, hl⟩ : ∃ y, (s.trim x).1.1 = y := ⟨_, rfl⟩
          rw [hsp, hl] at h3
          rw [hsp] at e1 e2 e3 e4
          rw [hl] at e2 e3 ⊢
          have hspt : sp.h ≤ 1099511627776 := by
            obtain ⟨q, r⟩ := ring_read h3.pull1
            exact (RSt.ne_of r.ok).2.2
          have hrd := row_rd h3 (by decide)
          have h3 := h3.pull3
          rw [← e4] at h3 ⊢
          have HON := Lib.hid e1
          have HS := Lib.hid e3
          have hllen : s.h + l.length ≤ 1099511627776 := by omega
          have Hh3 := Lib.hid h3
          have Hhrd := Lib.hid hrd
          have He2 := Lib.hid e2
          clear h3 hrd e2
          clear e1 e3 e4 hsp hl
          obtain ⟨i0, hi, hz0, hz1, hz2⟩ := info_parts intInfo
          go_wp2_with (at_builtin; refine wpList_append_rd rfl _ _ 39 rfl i0 _ 8 Try.underlying39 hi hz0 hz1 hz2 rfl (by decide) rfl Hh3.out rfl Hhrd.out (ints_one _) (len_ok (by omega)) (by omega) ?_)
          intro A6 c6 w6 h6
          rw [← ints_append, He2.out, HS.out] at h6
          rw [HS.out]
          have H3 := Lib.hid h6.pull1.drop.pull2.drop.pull2.pull1
          clear h6 Hh3 Hhrd He2 HS hi hz0 hz1 hz2
          obtain ⟨q', r'⟩ := ring_read H3.out.pull2
          have hl1 := (RSt.ne_of r'.ok).2.1
          have hl2 := (RSt.ne_of r'.ok).1
          have hl3 := (RSt.ne_of r'.ok).2.2
          have R' := Lib.hid r'
          clear r'
          go_wp2_with fail
          refine (ring_head R'.out).mono ?_
          rintro e w' ⟨rfl, rfl⟩
          dsimp only
          go_wp2_with fail
          go_loopw [20] (fun kk wr2 => ∃ kx : Nat, (sp.h ≤ kx ∧ kx ≤ sp.t) ∧ kk = .int .i64 kx ∧ Inv w wr2 [RowA 3 1 A6 sp.h c6 (ints (upto sp.h)), RowA 4 1 A2 sp.t c2 (bools ds), RingA b sp]) (fun kk _ => sp.t - (intOf kk).toNat)
          case atStart => exact ⟨sp.h, ⟨Nat.le_refl _, hl1⟩, rfl, H3.out⟩
          case round =>
            obtain ⟨kx, ⟨hk1, hk2⟩, rfl, hI⟩ := hrel
            clear R' H3
            by_cases hlt : kx < sp.t
            · obtain ⟨d, hd, hget⟩ := once_get HON.out hk1 hlt
              obtain ⟨g, eA, hcell⟩ := row_cell hI.pull1 (bools_get hd)
              cases eA
              obtain ⟨q2, r2⟩ := ring_read hI.pull2
              have hgc := ring_get r2 kx
              have hbn : ((kx : Int) + 1 != (kx : Int) + 1) = false := by simp
              cases d
              all_goals
                simp only [Bool.false_eq_true, if_true, if_false] at hget
                rw [hget] at hgc
                have Hhgc := Lib.hid hgc
                have HhI := Lib.hid hI
                clear hgc hI
                clear hd hget r2
                as_aux_lemma =>
                go_wp2_with fail
                refine Hhgc.out.mono ?_
                rintro e w' ⟨rfl, m, rfl⟩
                dsimp only [duo]
                go_wp2
                go_roundw
                case rel => exact ⟨kx + 1, ⟨by omega, by omega⟩, by go_num, HhI.out.drewN _⟩
                case measure => simp [intOf]; omega
            · have hd : decide ((kx : Int) < (sp.t : Int)) = false := by rw [decide_eq_false_iff_not]; omega
              have HhI := Lib.hid hI
              clear hI
              go_wp2
              go_roundw
              case rel => exact ⟨k + 1, sp, ds, A6, A2, c6, c2, by omega, rfl, rfl, rfl, by go_num, HON, HhI.out⟩
              case measure => simp [intOf]; omega
        by_cases d345 : d = 3 ∨ d = 4 ∨ d = 5
        · as_aux_lemma =>
          rcases d345 with rfl | rfl | rfl
          all_goals
            as_aux_lemma =>
            go_wp2_with fail
            refine (among_any z.2 (s.t + 1) (by omega) (by omega) _).mono ?_
            rintro e w' ⟨rfl, rfl⟩
            dsimp only
            obtain ⟨x, hx⟩ : ∃ x, amongI z.2 (s.t + 1) = x := ⟨_, rfl⟩
            rw [hx]
            clear hx
            go_wp2_with fail
            refine (ring_publish HA.out.pull3 x).mono ?_
            rintro e w3 ⟨rfl, h3⟩
            dsimp only
            have hcc := once_publish hON.out x
            obtain ⟨sp, hsp⟩ : ∃ y, (s.publish x).2 = y := ⟨_, rfl⟩
            obtain ⟨er, her⟩ : ∃ y, (s.publish x).1 = y := ⟨_, rfl⟩
            rw [hsp] at h3 hcc
            rw [her] at hcc ⊢
            have h3 := h3.pull1.drop.pull2.pull2
            clear hsp her
            rcases hcc with ⟨e1, rfl⟩ | ⟨rfl, kp, rfl, hkp, e1, e2, e3⟩
            · have be : (er == 0) = false := by rw [beq_eq_false_iff_ne]; exact e1
              have HON := hON
              have H3 := Lib.hid h3
              clear h3 e1
              as_aux_lemma =>
              obtain ⟨q', r'⟩ := ring_read H3.out.pull2
              have hl1 := (RSt.ne_of r'.ok).2.1
              have hl2 := (RSt.ne_of r'.ok).1
              have hl3 := (RSt.ne_of r'.ok).2.2
              have R' := Lib.hid r'
              clear r'
              go_wp2_with fail
              refine (ring_head R'.out).mono ?_
              rintro e w' ⟨rfl, rfl⟩
              dsimp only
              go_wp2_with fail
              go_loopw [20] (fun kk wr2 => ∃ kx : Nat, (sp.h ≤ kx ∧ kx ≤ sp.t) ∧ kk = .int .i64 kx ∧ Inv w wr2 [RowA 3 1 A1 sp.h c1 (ints (upto sp.h)), RowA 4 1 A2 sp.t c2 (bools ds), RingA b sp]) (fun kk _ => sp.t - (intOf kk).toNat)
              case atStart => exact ⟨sp.h, ⟨Nat.le_refl _, hl1⟩, rfl, H3.out⟩
              case round =>
                obtain ⟨kx, ⟨hk1, hk2⟩, rfl, hI⟩ := hrel
                clear R' H3
                by_cases hlt : kx < sp.t
                · obtain ⟨d, hd, hget⟩ := once_get HON.out hk1 hlt
                  obtain ⟨g, eA, hcell⟩ := row_cell hI.pull1 (bools_get hd)
                  cases eA
                  obtain ⟨q2, r2⟩ := ring_read hI.pull2
                  have hgc := ring_get r2 kx
                  have hbn : ((kx : Int) + 1 != (kx : Int) + 1) = false := by simp
                  cases d
                  all_goals
                    simp only [Bool.false_eq_true, if_true, if_false] at hget
                    rw [hget] at hgc
                    have Hhgc := Lib.hid hgc
                    have HhI := Lib.hid hI
                    clear hgc hI
                    clear hd hget r2
                    as_aux_lemma =>
                    go_wp2_with fail
                    refine Hhgc.out.mono ?_
                    rintro e w' ⟨rfl, m, rfl⟩
                    dsimp only [duo]
                    go_wp2
                    go_roundw
                    case rel => exact ⟨kx + 1, ⟨by omega, by omega⟩, by go_num, HhI.out.drewN _⟩
                    case measure => simp [intOf]; omega
                · have hd : decide ((kx : Int) < (sp.t : Int)) = false := by rw [decide_eq_false_iff_not]; omega
                  have HhI := Lib.hid hI
                  clear hI
                  go_wp2
                  go_roundw
                  case rel => exact ⟨k + 1, sp, ds, A1, A2, c1, c2, by omega, rfl, rfl, rfl, by go_num, HON, HhI.out⟩
                  case measure => simp [intOf]; omega
            · rw [← e2] at h3 hkp ⊢
              rw [← e3] at h3 ⊢
              have hlen := e1.len
              rw [List.length_set] at hlen
              have HON := Lib.hid e1
              obtain ⟨g, rfl, _, hf⟩ := row_at h3.pull1 (by omega)
              have hfz := hf kp
              have hset := (row_set h3.pull1 kp (by rw [bools_len]; omega) (.bool true)).pull1
              rw [bools_set] at hset
              obtain ⟨v, hv⟩ : ∃ v, (bools ds)[kp]? = some v := ⟨_, List.getElem?_eq_getElem (by rw [bools_len]; omega)⟩
              obtain ⟨g', eg, hcv⟩ := row_cell h3.pull1 hv
              cases eg
              have hkp2 : (kp : Int) < (sp.t : Int) := by omega
              have H3 := Lib.hid hset
              clear h3 e1 e2 e3 hf hv hlen hset
              as_aux_lemma =>
              obtain ⟨q', r'⟩ := ring_read H3.out.pull2
              have hl1 := (RSt.ne_of r'.ok).2.1
              have hl2 := (RSt.ne_of r'.ok).1
              have hl3 := (RSt.ne_of r'.ok).2.2
              have R' := Lib.hid r'
              clear r'
              go_wp2_with fail
              refine (ring_head R'.out).mono ?_
              rintro e w' ⟨rfl, rfl⟩
              dsimp only
              go_wp2_with fail
              go_loopw [20] (fun kk wr2 => ∃ kx : Nat, (sp.h ≤ kx ∧ kx ≤ sp.t) ∧ kk = .int .i64 kx ∧ Inv w wr2 [RowA 3 1 A1 sp.h c1 (ints (upto sp.h)), RowA 4 1 (some ⟨g, 0, none⟩) sp.t c2 (bools (ds.set kp true)), RingA b sp]) (fun kk _ => sp.t - (intOf kk).toNat)
              case atStart => exact ⟨sp.h, ⟨Nat.le_refl _, hl1⟩, rfl, H3.out⟩
              case round =>
                obtain ⟨kx, ⟨hk1, hk2⟩, rfl, hI⟩ := hrel
                clear R' H3
                by_cases hlt : kx < sp.t
                · obtain ⟨d, hd, hget⟩ := once_get HON.out hk1 hlt
                  obtain ⟨g, eA, hcell⟩ := row_cell hI.pull1 (bools_get hd)
                  cases eA
                  obtain ⟨q2, r2⟩ := ring_read hI.pull2
                  have hgc := ring_get r2 kx
                  have hbn : ((kx : Int) + 1 != (kx : Int) + 1) = false := by simp
                  cases d
                  all_goals
                    simp only [Bool.false_eq_true, if_true, if_false] at hget
                    rw [hget] at hgc
                    have Hhgc := Lib.hid hgc
                    have HhI := Lib.hid hI
                    clear hgc hI
                    clear hd hget r2
                    as_aux_lemma =>
                    go_wp2_with fail
                    refine Hhgc.out.mono ?_
                    rintro e w' ⟨rfl, m, rfl⟩
                    dsimp only [duo]
                    go_wp2
                    go_roundw
                    case rel => exact ⟨kx + 1, ⟨by omega, by omega⟩, by go_num, HhI.out.drewN _⟩
                    case measure => simp [intOf]; omega
                · have hd : decide ((kx : Int) < (sp.t : Int)) = false := by rw [decide_eq_false_iff_not]; omega
                  have HhI := Lib.hid hI
                  clear hI
                  go_wp2
                  go_roundw
                  case rel => exact ⟨k + 1, sp, (ds.set kp true), A1, (some ⟨g, 0, none⟩), c1, c2, by omega, rfl, rfl, rfl, by go_num, HON, HhI.out⟩
                  case measure => simp [intOf]; omega
        · have b6 : (d == 6) = false := by rw [beq_eq_false_iff_ne]; exact d6
          have b3 : (d == 3) = false := by rw [beq_eq_false_iff_ne]; omega
          have b4 : (d == 4) = false := by rw [beq_eq_false_iff_ne]; omega
          have b5 : (d == 5) = false := by rw [beq_eq_false_iff_ne]; omega
          clear d6 d345
          go_wp2_with fail
          refine (ring_claim HA.out.pull3 ((s.t : Int) + 1)).mono ?_
          rintro e w3 ⟨rfl, h3⟩
          dsimp only [tri]
          have hcc := once_claim hON.out
          obtain ⟨sp, hsp⟩ : ∃ x, (s.claim ((s.t : Int) + 1)).2 = x := ⟨_, rfl⟩
          obtain ⟨at_, hat⟩ : ∃ x, (s.claim ((s.t : Int) + 1)).1.1 = x := ⟨_, rfl⟩
          obtain ⟨went, hwe⟩ : ∃ x, (s.claim ((s.t : Int) + 1)).1.2.1 = x := ⟨_, rfl⟩
          obtain ⟨er, her⟩ : ∃ x, (s.claim ((s.t : Int) + 1)).1.2.2 = x := ⟨_, rfl⟩
          rw [hsp, hwe, her] at hcc
          rw [hsp] at h3
          rw [hat, hwe, her]
          have h3 := h3.pull1.drop.pull2.pull2
          clear hsp hat hwe her
          obtain ⟨j0, hj, hj0, hj1, hj2⟩ := info_parts boolInfo
          obtain ⟨i0, hi, hz0, hz1, hz2⟩ := info_parts intInfo
          obtain ⟨hsp1, hsp2, hsp3⟩ : sp.t ≤ 1099511627776 ∧ sp.h ≤ sp.t ∧ sp.h ≤ 1099511627776 := by
            obtain ⟨q, r⟩ := ring_read h3.pull2
            exact RSt.ne_of r.ok
          rcases hcc with ⟨e1, rfl, rfl⟩ | ⟨rfl, e1, e2, ⟨rfl, e3⟩ | ⟨rfl, e3⟩⟩
          · as_aux_lemma =>
            have be : (er == 0) = false := by rw [beq_eq_false_iff_ne]; exact e1
            have HON := hON
            have H3 := Lib.hid h3
            clear h3 e1
            obtain ⟨q', r'⟩ := ring_read H3.out.pull2
            have hl1 := (RSt.ne_of r'.ok).2.1
            have hl2 := (RSt.ne_of r'.ok).1
            have hl3 := (RSt.ne_of r'.ok).2.2
            have R' := Lib.hid r'
            clear r'
            go_wp2_with fail
            refine (ring_head R'.out).mono ?_
            rintro e w' ⟨rfl, rfl⟩
            dsimp only
            go_wp2_with fail
            go_loopw [20] (fun kk wr2 => ∃ kx : Nat, (sp.h ≤ kx ∧ kx ≤ sp.t) ∧ kk = .int .i64 kx ∧ Inv w wr2 [RowA 3 1 A1 sp.h c1 (ints (upto sp.h)), RowA 4 1 A2 sp.t c2 (bools ds), RingA b sp]) (fun kk _ => sp.t - (intOf kk).toNat)
            case atStart => exact ⟨sp.h, ⟨Nat.le_refl _, hl1⟩, rfl, H3.out⟩
            case round =>
              obtain ⟨kx, ⟨hk1, hk2⟩, rfl, hI⟩ := hrel
              clear R' H3
              by_cases hlt : kx < sp.t
              · obtain ⟨d, hd, hget⟩ := once_get HON.out hk1 hlt
                obtain ⟨g, eA, hcell⟩ := row_cell hI.pull1 (bools_get hd)
                cases eA
                obtain ⟨q2, r2⟩ := ring_read hI.pull2
                have hgc := ring_get r2 kx
                have hbn : ((kx : Int) + 1 != (kx : Int) + 1) = false := by simp
                cases d
                all_goals
                  simp only [Bool.false_eq_true, if_true, if_false] at hget
                  rw [hget] at hgc
                  have Hhgc := Lib.hid hgc
                  have HhI := Lib.hid hI
                  clear hgc hI
                  clear hd hget r2
                  as_aux_lemma =>
                  go_wp2_with fail
                  refine Hhgc.out.mono ?_
                  rintro e w' ⟨rfl, m, rfl⟩
                  dsimp only [duo]
                  go_wp2
                  go_roundw
                  case rel => exact ⟨kx + 1, ⟨by omega, by omega⟩, by go_num, HhI.out.drewN _⟩
                  case measure => simp [intOf]; omega
              · have hd : decide ((kx : Int) < (sp.t : Int)) = false := by rw [decide_eq_false_iff_not]; omega
                have HhI := Lib.hid hI
                clear hI
                go_wp2
                go_roundw
                case rel => exact ⟨k + 1, sp, ds, A1, A2, c1, c2, by omega, rfl, rfl, rfl, by go_num, HON, HhI.out⟩
                case measure => simp [intOf]; omega
          · as_aux_lemma =>
            have HON := Lib.hid e1
            have hcast : ((s.t : Int) + 1) = (sp.t : Int) := by omega
            have hst1 : s.t + 1 ≤ 1099511627776 := by omega
            have hsh1 : s.h + 1 ≤ 1099511627777 := by omega
            rw [← e3] at h3 ⊢
            have hrd : Rd (w3.alloc (.cells #[.bool false] 4)) 1 (some ⟨w3.heap.size, 0, none⟩) 1 [.bool false] := blk_rd (sz := 1) (n := 1) (cs := [.bool false]) (h3.alloc (.cells #[.bool false] 4)) (by simp) (fun j u hj => by simpa using hj)
            have h4 := (h3.alloc (.cells #[.bool false] 4)).pull2
            have Hhcast := Lib.hid hcast
            have Hhrd := Lib.hid hrd
            have Hh4 := Lib.hid h4
            have He2 := Lib.hid e2
            clear hcast hrd h4 e2
            clear h3 e1 e3
            go_wp2_with (at_builtin; refine wpList_append_rd rfl _ _ 43 rfl j0 _ 1 Try.underlying43 hj hj0 hj1 hj2 rfl (by decide) rfl Hh4.out rfl Hhrd.out (one_one rfl) (len_ok (by omega)) (by omega) ?_)
            intro A7 c7 w7 h7
            rw [← bools_snoc, ← He2.out] at h7
            rw [← He2.out, Hhcast.out]
            have H3 := Lib.hid h7.pull1.drop.pull1
            clear h7
            obtain ⟨q', r'⟩ := ring_read H3.out.pull2
            have hl1 := (RSt.ne_of r'.ok).2.1
            have hl2 := (RSt.ne_of r'.ok).1
            have hl3 := (RSt.ne_of r'.ok).2.2
            have R' := Lib.hid r'
            clear r'
            go_wp2_with fail
            refine (ring_head R'.out).mono ?_
            rintro e w' ⟨rfl, rfl⟩
            dsimp only
            go_wp2_with fail
            go_loopw [20] (fun kk wr2 => ∃ kx : Nat, (sp.h ≤ kx ∧ kx ≤ sp.t) ∧ kk = .int .i64 kx ∧ Inv w wr2 [RowA 3 1 A1 sp.h c1 (ints (upto sp.h)), RowA 4 1 A7 sp.t c7 (bools (ds ++ [false])), RingA b sp]) (fun kk _ => sp.t - (intOf kk).toNat)
            case atStart => exact ⟨sp.h, ⟨Nat.le_refl _, hl1⟩, rfl, H3.out⟩
            case round =>
              obtain ⟨kx, ⟨hk1, hk2⟩, rfl, hI⟩ := hrel
              clear R' H3
              by_cases hlt : kx < sp.t
              · obtain ⟨d, hd, hget⟩ := once_get HON.out hk1 hlt
                obtain ⟨g, eA, hcell⟩ := row_cell hI.pull1 (bools_get hd)
                cases eA
                obtain ⟨q2, r2⟩ := ring_read hI.pull2
                have hgc := ring_get r2 kx
                have hbn : ((kx : Int) + 1 != (kx : Int) + 1) = false := by simp
                cases d
                all_goals
                  simp only [Bool.false_eq_true, if_true, if_false] at hget
                  rw [hget] at hgc
                  have Hhgc := Lib.hid hgc
                  have HhI := Lib.hid hI
                  clear hgc hI
                  clear hd hget r2
                  as_aux_lemma =>
                  go_wp2_with fail
                  refine Hhgc.out.mono ?_
                  rintro e w' ⟨rfl, m, rfl⟩
                  dsimp only [duo]
                  go_wp2
                  go_roundw
                  case rel => exact ⟨kx + 1, ⟨by omega, by omega⟩, by go_num, HhI.out.drewN _⟩
                  case measure => simp [intOf]; omega
              · have hd : decide ((kx : Int) < (sp.t : Int)) = false := by rw [decide_eq_false_iff_not]; omega
                have HhI := Lib.hid hI
                clear hI
                go_wp2
                go_roundw
                case rel => exact ⟨k + 1, sp, (ds ++ [false]), A1, A7, c1, c7, by omega, rfl, rfl, rfl, by go_num, HON, HhI.out⟩
                case measure => simp [intOf]; omega
          · as_aux_lemma =>
            have HON := Lib.hid e1
            have hcast : ((s.t : Int) + 1) = (sp.t : Int) := by omega
            have hst1 : s.t + 1 ≤ 1099511627776 := by omega
            have hsh1 : s.h + 1 ≤ 1099511627777 := by omega
            have hup : upto s.h ++ [(s.h : Int) + 1] = upto sp.h := by rw [e3]; exact (upto_succ _).symm
            have hrd : Rd (w3.alloc (.cells #[.int .i64 ((s.h : Int) + 1)] 3)) 1 (some ⟨w3.heap.size, 0, none⟩) 1 [.int .i64 ((s.h : Int) + 1)] := blk_rd (sz := 1) (n := 1) (cs := [.int .i64 ((s.h : Int) + 1)]) (h3.alloc (.cells #[.int .i64 ((s.h : Int) + 1)] 3)) (by simp) (fun j u hj => by simpa using hj)
            have h4 := (h3.alloc (.cells #[.int .i64 ((s.h : Int) + 1)] 3)).pull1
            have hpos : decide ((0 : Int) < (s.h : Int) + 1) = true := by rw [decide_eq_true_iff]; omega
            have Hhcast := Lib.hid hcast
            have Hhrd := Lib.hid hrd
            have Hh4 := Lib.hid h4
            have He2 := Lib.hid e2
            have He3 := Lib.hid e3
            have Hhup := Lib.hid hup
            clear hcast hrd h4 e2 e3 hup
            clear h3 e1
            go_wp2_with (at_builtin; refine wpList_append_rd rfl _ _ 39 rfl i0 _ 8 Try.underlying39 hi hz0 hz1 hz2 rfl (by decide) rfl Hh4.out rfl Hhrd.out (one_one rfl) (len_ok (by omega)) (by omega) ?_)
            intro A6 c6 w6 h6
            rw [← ints_snoc, Hhup.out, ← He3.out] at h6
            rw [← He3.out]
            have h6 := h6.pull1.drop
            have hrd2 : Rd (w6.alloc (.cells #[.bool false] 4)) 1 (some ⟨w6.heap.size, 0, none⟩) 1 [.bool false] := blk_rd (sz := 1) (n := 1) (cs := [.bool false]) (h6.alloc (.cells #[.bool false] 4)) (by simp) (fun j u hj => by simpa using hj)
            have h62 := (h6.alloc (.cells #[.bool false] 4)).pull2
            have Hhrd2 := Lib.hid hrd2
            have Hh62 := Lib.hid h62
            clear hrd2 h62
            clear h6 Hh4 Hhrd
            go_wp2_with (at_builtin; refine wpList_append_rd rfl _ _ 43 rfl j0 _ 1 Try.underlying43 hj hj0 hj1 hj2 rfl (by decide) rfl Hh62.out rfl Hhrd2.out (one_one rfl) (len_ok (by omega)) (by omega) ?_)
            intro A7 c7 w7 h7
            rw [← bools_snoc, ← He2.out] at h7
            rw [← He2.out, Hhcast.out]
            have H3 := Lib.hid h7.pull1.drop.pull1
            clear h7
            obtain ⟨q', r'⟩ := ring_read H3.out.pull2
            have hl1 := (RSt.ne_of r'.ok).2.1
            have hl2 := (RSt.ne_of r'.ok).1
            have hl3 := (RSt.ne_of r'.ok).2.2
            have R' := Lib.hid r'
            clear r'
            go_wp2_with fail
            refine (ring_head R'.out).mono ?_
            rintro e w' ⟨rfl, rfl⟩
            dsimp only
            go_wp2_with fail
            go_loopw [20] (fun kk wr2 => ∃ kx : Nat, (sp.h ≤ kx ∧ kx ≤ sp.t) ∧ kk = .int .i64 kx ∧ Inv w wr2 [RowA 3 1 A6 sp.h c6 (ints (upto sp.h)), RowA 4 1 A7 sp.t c7 (bools (ds ++ [false])), RingA b sp]) (fun kk _ => sp.t - (intOf kk).toNat)
            case atStart => exact ⟨sp.h, ⟨Nat.le_refl _, hl1⟩, rfl, H3.out⟩
            case round =>
              obtain ⟨kx, ⟨hk1, hk2⟩, rfl, hI⟩ := hrel
              clear R' H3
              by_cases hlt : kx < sp.t
              · obtain ⟨d, hd, hget⟩ := once_get HON.out hk1 hlt
                obtain ⟨g, eA, hcell⟩ := row_cell hI.pull1 (bools_get hd)
                cases eA
                obtain ⟨q2, r2⟩ := ring_read hI.pull2
                have hgc := ring_get r2 kx
                have hbn : ((kx : Int) + 1 != (kx : Int) + 1) = false := by simp
                cases d
                all_goals
                  simp only [Bool.false_eq_true, if_true, if_false] at hget
                  rw [hget] at hgc
                  have Hhgc := Lib.hid hgc
                  have HhI := Lib.hid hI
                  clear hgc hI
                  clear hd hget r2
                  as_aux_lemma =>
                  go_wp2_with fail
                  refine Hhgc.out.mono ?_
                  rintro e w' ⟨rfl, m, rfl⟩
                  dsimp only [duo]
                  go_wp2
                  go_roundw
                  case rel => exact ⟨kx + 1, ⟨by omega, by omega⟩, by go_num, HhI.out.drewN _⟩
                  case measure => simp [intOf]; omega
              · have hd : decide ((kx : Int) < (sp.t : Int)) = false := by rw [decide_eq_false_iff_not]; omega
                have HhI := Lib.hid hI
                clear hI
                go_wp2
                go_roundw
                case rel => exact ⟨k + 1, sp, (ds ++ [false]), A6, A7, c6, c7, by omega, rfl, rfl, rfl, by go_num, HON, HhI.out⟩
                case measure => simp [intOf]; omega
      · have hd : decide ((k : Int) < 150) = false := by rw [decide_eq_false_iff_not]; omega
        have HhI := Lib.hid hI
        clear hI
        obtain ⟨hlim1, hlim2, hlim3⟩ : s.t ≤ 1099511627776 ∧ s.h ≤ s.t ∧ s.h ≤ 1099511627776 := by
          obtain ⟨q, r⟩ := ring_read HhI.out.pull2
          exact RSt.ne_of r.ok
        have hall := once_all hON.out
        have hst : s.h + s.L.length = s.t := rfl
        have Hhall := Lib.hid hall
        have Hhst := Lib.hid hst
        clear hall hst
        as_aux_lemma =>
        go_wp2_with fail
        refine (ring_refs HhI.out.pull2).mono ?_
        rintro e w3 ⟨A3, c3, rfl, h3⟩
        dsimp only
        have hrd := row_rd h3 (by decide)
        have H3 := Lib.hid h3.pull2
        have Hhrd := Lib.hid hrd
        clear hrd
        clear h3
        obtain ⟨i0, hi, hz0, hz1, hz2⟩ := info_parts intInfo
        go_wp2_with (at_builtin; refine wpList_append_rd rfl _ _ 39 rfl i0 _ 8 Try.underlying39 hi hz0 hz1 hz2 rfl (by decide) rfl H3.out rfl Hhrd.out (ints_one _) (len_ok (by have := Hhst.out; omega)) (by have := Hhst.out; omega) ?_)
        intro A6 c6 w6 h6
        rw [← ints_append, Hhall.out, Hhst.out] at h6
        rw [Hhst.out]
        have H6 := Lib.hid h6
        clear h6 H3
        go_wp2_with fail
        go_loopw [24] (fun kk wr2 => ∃ kx : Nat, kx ≤ s.t ∧ kk = .int .i64 kx ∧ wr2 = w6) (fun kk _ => s.t - (intOf kk).toNat)
        case atStart => exact ⟨0, Nat.zero_le _, rfl, rfl⟩
        case round =>
          obtain ⟨kx, hk2, rfl, rfl⟩ := hrel
          by_cases hlt : kx < s.t
          · obtain ⟨g, rfl, hcell⟩ := row_cell H6.out (ints_get (upto_at hlt))
            have hbn : ((kx : Int) + 1 != (kx : Int) + 1) = false := by simp
            go_wp2
            go_roundw
            case rel => exact ⟨kx + 1, by omega, by go_num, trivial⟩
            case measure => simp [intOf]; omega
          · obtain ⟨q', r'⟩ := ring_read H6.out.pull2
            have hd : decide ((kx : Int) < (s.t : Int)) = false := by rw [decide_eq_false_iff_not]; omega
            have hb1 : ((s.t : Int) == (s.t : Int)) = true := by simp
            have hb2 : ((s.h : Int) == (s.h : Int)) = true := by simp
            have Hr' := Lib.hid r'
            clear r'
            go_wp2_with fail
            refine (ring_head Hr'.out).mono ?_
            rintro e w' ⟨rfl, rfl⟩
            dsimp only
            go_wp2
            go_ret
            exact ⟨rfl, H6.out.below⟩
    · have hd : decide ((k : Int) < (len : Int)) = false := by rw [decide_eq_false_iff_not]; omega
      have HhI := Lib.hid hI
      clear hI
      obtain ⟨hlim1, hlim2, hlim3⟩ : s.t ≤ 1099511627776 ∧ s.h ≤ s.t ∧ s.h ≤ 1099511627776 := by
        obtain ⟨q, r⟩ := ring_read HhI.out.pull2
        exact RSt.ne_of r.ok
      have hall := once_all hON.out
      have hst : s.h + s.L.length = s.t := rfl
      have Hhall := Lib.hid hall
      have Hhst := Lib.hid hst
      clear hall hst
      as_aux_lemma =>
      go_wp2_with fail
      refine (ring_refs HhI.out.pull2).mono ?_
      rintro e w3 ⟨A3, c3, rfl, h3⟩
      dsimp only
      have hrd := row_rd h3 (by decide)
      have H3 := Lib.hid h3.pull2
      have Hhrd := Lib.hid hrd
      clear hrd
      clear h3
      obtain ⟨i0, hi, hz0, hz1, hz2⟩ := info_parts intInfo
      go_wp2_with (at_builtin; refine wpList_append_rd rfl _ _ 39 rfl i0 _ 8 Try.underlying39 hi hz0 hz1 hz2 rfl (by decide) rfl H3.out rfl Hhrd.out (ints_one _) (len_ok (by have := Hhst.out; omega)) (by have := Hhst.out; omega) ?_)
      intro A6 c6 w6 h6
      rw [← ints_append, Hhall.out, Hhst.out] at h6
      rw [Hhst.out]
      have H6 := Lib.hid h6
      clear h6 H3
      go_wp2_with fail
      go_loopw [24] (fun kk wr2 => ∃ kx : Nat, kx ≤ s.t ∧ kk = .int .i64 kx ∧ wr2 = w6) (fun kk _ => s.t - (intOf kk).toNat)
      case atStart => exact ⟨0, Nat.zero_le _, rfl, rfl⟩
      case round =>
        obtain ⟨kx, hk2, rfl, rfl⟩ := hrel
        by_cases hlt : kx < s.t
        · obtain ⟨g, rfl, hcell⟩ := row_cell H6.out (ints_get (upto_at hlt))
          have hbn : ((kx : Int) + 1 != (kx : Int) + 1) = false := by simp
          go_wp2
          go_roundw
          case rel => exact ⟨kx + 1, by omega, by go_num, trivial⟩
          case measure => simp [intOf]; omega
        · obtain ⟨q', r'⟩ := ring_read H6.out.pull2
          have hd : decide ((kx : Int) < (s.t : Int)) = false := by rw [decide_eq_false_iff_not]; omega
          have hb1 : ((s.t : Int) == (s.t : Int)) = true := by simp
          have hb2 : ((s.h : Int) == (s.h : Int)) = true := by simp
          have Hr' := Lib.hid r'
          clear r'
          go_wp2_with fail
          refine (ring_head Hr'.out).mono ?_
          rintro e w' ⟨rfl, rfl⟩
          dsimp only
          go_wp2
          go_ret
          exact ⟨rfl, H6.out.below⟩
end Go.Proofs.Ytfackochjlccpaa
