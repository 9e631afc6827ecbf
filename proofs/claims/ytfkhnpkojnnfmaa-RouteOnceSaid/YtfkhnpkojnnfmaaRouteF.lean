/- few: keys of one's own, not too many, not too long. -/
import Derived.Test.YtfkhnpkojnnfmaaRouteS
import Derived.Test.YtfkhnpkojnnfmaaBytes
import Derived.Test.YtfkhnpkojnnfmaaOpen2
namespace Go.Proofs.Ytfkhnpkojnnfmaa
open Go Go.RowKit
set_option linter.unusedVariables false
set_option linter.unusedSimpArgs false
def fewKey (z : List Int) : List Nat := (z.take 65).map Int.toNat
def fewTo (zss : List (List Int)) (k : Nat) : List (List Nat) := (zss.take k).map fewKey
theorem fewTo_len {zss : List (List Int)} {k : Nat} (h : k ≤ zss.length) : (fewTo zss k).length = k := by simp [fewTo]; omega
theorem fewTo_succ {zss : List (List Int)} {k : Nat} {z : List Int} (h : zss[k]? = some z) : fewTo zss (k + 1) = fewTo zss k ++ [fewKey z] := by
  unfold fewTo
  rw [List.take_add_one, h]
  simp
theorem u8_wf {z : Int} (h : (Lit.int .u8 z).wf = true) : 0 ≤ z ∧ z < 256 := by
  simp [Lit.wf, IntKind.min, IntKind.max, IntKind.signed, IntKind.bits] at h
  omega
theorem fewKey_rd {W : World} {A : Option Addr} {z : List Int} (h : InI .u8 W A z) : RdB W A (fewKey z) := by
  have hb : ∀ (j : Nat) x, (fewKey z)[j]? = some x → ∃ y : Int, z[j]? = some y ∧ y.toNat = x := fun j x hj => by
    simp only [fewKey, List.getElem?_map, List.getElem?_take] at hj
    split at hj
    · obtain ⟨y, hy, rfl⟩ := Option.map_eq_some_iff.1 hj
      exact ⟨y, hy, rfl⟩
    · cases hj
  refine ⟨by simp [fewKey]; omega, fun j x hj => ?_, fun h0 => ?_⟩
  · obtain ⟨y, hy, rfl⟩ := hb j x hj
    obtain ⟨g, o, _, hc⟩ := h (by have := (List.getElem?_eq_some_iff.1 hy).1; omega)
    have := u8_wf (hc j y hy).2
    omega
  · simp [fewKey] at h0
    obtain ⟨g, o, rfl, hc⟩ := h (by omega)
    refine ⟨g, o, rfl, fun j x hj => ?_⟩
    obtain ⟨y, hy, rfl⟩ := hb j x hj
    have h2 := u8_wf (hc j y hy).2
    rw [(hc j y hy).1, show ((y.toNat : Nat) : Int) = y by omega]
theorem fewTo_ok {W : World} {A : Option Addr} {zss : List (List Int)} (h : InII .u8 W A zss) {k : Nat} (hk : k ≤ 257) : KeysOk (fewTo zss k) := by
  refine ⟨by simp [fewTo]; omega, fun i x hx => ?_⟩
  simp only [fewTo, List.getElem?_map, List.getElem?_take] at hx
  split at hx
  · obtain ⟨z, hz, rfl⟩ := Option.map_eq_some_iff.1 hx
    obtain ⟨g, o, _, hc⟩ := h (by have := (List.getElem?_eq_some_iff.1 hz).1; omega)
    obtain ⟨B, d, _, _, _, hi⟩ := hc i z hz
    have hr := fewKey_rd hi
    exact ⟨by simp [fewKey]; omega, hr.2.1⟩
  · cases hx
theorem fewKey_len (z : List Int) : (fewKey z).length = min z.length 65 := by simp [fewKey]; omega
theorem bytesInfo : (Try.prog.info? 34).map (fun i => (i.zero, i.size, i.bytes)) = some (some (.slice none 0 0), 1, 24) := by kernel_rfl
theorem run_loadB (w : World) (g b : Nat) (v : Value) (h : w.cell? ⟨g, b, none⟩ = some v) : (Instr.loadAt 34 (.pointer (some ⟨g, b, none⟩))).run Try.prog w = .ok v w := by go_simp
theorem run_build1B (w : World) (A : Option Addr) (n c : Nat) : (Instr.buildSlice 22 1 #[(0, .slice A n c)]).run Try.prog w = .ok (.slice (some ⟨w.heap.size, 0, none⟩) 1 1) (w.alloc (.cells #[.slice A n c] 34)) := by go_simp
set_option maxHeartbeats 1000000 in
set_option maxRecDepth 100000 in
theorem few_any {W w : World} {Rs : List Asn} (h : Inv W w Rs) (A : Option Addr) (len cap : Nat) (zss : List (List Int)) (hl : zss.length = len) (hlb : len ≤ 140737488351232) (hz : InII .u8 W A zss) :
    Calls Try.prog 8 #[.slice A len cap] w fun e w' => ∃ A' c', e = .returned (.slice A' (min len 257) c') ∧ Inv W w' (KeysA A' (min len 257) c' (fewTo zss (min len 257)) :: Rs) := by
  have hrow : Inv W (w.alloc (.cells #[] 34)) (RowA 34 1 (some ⟨w.heap.size, 0, none⟩) 0 0 [] :: Rs) := row_mk (h.alloc _) (Nat.le_refl 0) (by decide) (by simp) (by simp)
  have hg0 : Inv W (w.alloc (.cells #[] 34)) (KeysA (some ⟨w.heap.size, 0, none⟩) 0 0 [] :: Rs) := grid_shut (ks := []) (xss := []) rfl hrow
  obtain ⟨m, hm⟩ : ∃ m, min len 257 = m := ⟨_, rfl⟩
  rw [hm]
  have Hhg0 := Lib.hid hg0
  have Hhl := Lib.hid hl
  have Hhz := Lib.hid hz
  have Hhm := Lib.hid hm
  clear hg0 hl hz hm
  clear hrow h
  go_enter Try.func8, Try.ntmps8
  go_wp2_with fail
  go_loopw [3, 4] (fun v i wr => ∃ (k : Nat) (A' : Option Addr) (c' : Nat), (k ≤ len ∧ k ≤ 257) ∧ v = .slice A' k c' ∧ i = .int .i64 k ∧ Inv W wr (KeysA A' k c' (fewTo zss k) :: Rs)) (fun _ i _ => len - (intOf i).toNat)
  case atStart => exact ⟨0, _, 0, ⟨by omega, by omega⟩, rfl, rfl, by simpa [fewTo] using Hhg0.out⟩
  case round =>
    obtain ⟨k, A', c', ⟨hk, hk2⟩, rfl, rfl, hI⟩ := hrel
    clear Hhg0
    have HI := Lib.hid hI
    by_cases hlt : k < len
    · by_cases h257 : k < 257
      · obtain ⟨z, hzk⟩ : ∃ z, zss[k]? = some z := ⟨_, List.getElem?_eq_getElem (by have := Hhl.out; omega)⟩
        obtain ⟨g, o, rfl, hc⟩ := Hhz.out (by have := Hhl.out; omega)
        obtain ⟨B, d, hcell, hd1, hd2, hi⟩ := hc k z hzk
        have hcw := hI.old_cell hcell
        have hrd := fewKey_rd hi
        have hs := fewTo_succ hzk
        have hle : decide ((k : Int) ≤ 256) = true := by rw [decide_eq_true_iff]; omega
        have Hhs := Lib.hid hs
        have Hhrd := Lib.hid hrd
        clear hs hrd
        have hbl : g < W.heap.size := World.block_lt_of_cell? _ _ hcell
        have hcl := hcell
        have HI0 := Lib.hid hI
        have kq : (0 : Int) ≤ k := by omega
        have kq2 : (k : Int) < len := by omega
        obtain ⟨q, hq⟩ : ∃ q, min z.length 65 = q := ⟨_, rfl⟩
        have hq1 : (0 : Int) ≤ q := by omega
        have hq2 : (q : Int) ≤ z.length := by omega
        have hq3 : (q : Int) ≤ d := by omega
        have hq4 : (q : Int) ≤ 65 := by omega
        have hfl : (fewKey z).length = q := by rw [fewKey_len, hq]
        unfold maxLen at hd2
        have Hhcl := Lib.hid hcl
        have Hhfl := Lib.hid hfl
        have HhI := Lib.hid hI
        clear hcl hfl hI
        clear hc hzk hi hcell
        go_wp2_with fail
        refine (?_ : ∀ a : Act, a.tmps.size = 32 → a.eval (.tmp 0) = .slice (some ⟨g, o, none⟩) len cap → a.eval (.tmp 3) = .slice A' k c' → a.eval (.tmp 4) = .int .i64 k → a = _ → Code.wp _ _ _ a _) _ rfl rfl rfl rfl rfl
        intro a hsz e0 e3 e4 ha
        have HA := Lib.hid ha
        clear ha
        refine wp_region_calm (S := fun w' => w'.cell? ⟨g, o + k, none⟩ = some (.slice B z.length d)) (by kernel_rfl) (by simpa using hcw) (fun hHeld => ?_)
        show wpAnyH _ _ _ _ _ 16 (Array.replicate 16 false) _ _
        refine wpAnyH_take (i := 0) (v := .slice A' k c') rfl (by kernel_rfl) (by kernel_rfl) (by kernel_rfl) (fun _ _ _ h => h.elim) (Or.inl ⟨by rfl, fun w hSw => yields_val (m := pure (.slice A' k c')) (by simp [execOp, ev_put_ne, ev_put_eq, put_size, e0, e3, e4, hsz]) ?_⟩) (by assumption) ?_
        · go_simp
        show wpAnyH _ _ _ _ _ _ _ (Act.put _ (some 16) _) _
        refine wpAnyH_take (i := 1) (v := .slice (some ⟨g, o, none⟩) len cap) rfl (by kernel_rfl) (by kernel_rfl) (by kernel_rfl) (fun _ _ _ h => h.elim) (Or.inl ⟨by rfl, fun w hSw => yields_val (m := pure (.slice (some ⟨g, o, none⟩) len cap)) (by simp [execOp, ev_put_ne, ev_put_eq, put_size, e0, e3, e4, hsz]) ?_⟩) (by assumption) ?_
        · go_simp
        show wpAnyH _ _ _ _ _ _ _ (Act.put _ (some 17) _) _
        refine wpAnyH_take (i := 2) (v := .int .i64 k) rfl (by kernel_rfl) (by kernel_rfl) (by kernel_rfl) (fun _ _ _ h => h.elim) (Or.inl ⟨by rfl, fun w hSw => yields_val (m := pure (.int .i64 k)) (by simp [execOp, ev_put_ne, ev_put_eq, put_size, e0, e3, e4, hsz]) ?_⟩) (by assumption) ?_
        · go_simp
        show wpAnyH _ _ _ _ _ _ _ (Act.put _ (some 18) _) _
        refine wpAnyH_take (i := 3) (v := .pointer (some ⟨g, o + k, none⟩)) rfl (by kernel_rfl) (by kernel_rfl) (by kernel_rfl) (fun _ _ _ h => h.elim) (Or.inl ⟨by rfl, fun w hSw => yields_val (m := Instr.indexAt 22 (.slice (some ⟨g, o, none⟩) len cap) (.int .i64 k)) (by simp [execOp, ev_put_ne, ev_put_eq, put_size, e0, e3, e4, hsz]) ?_⟩) (by assumption) ?_
        · go_simp
        show wpAnyH _ _ _ _ _ _ _ (Act.put _ (some 19) _) _
        refine wpAnyH_take (i := 4) (v := .slice B z.length d) rfl (by kernel_rfl) (by kernel_rfl) (by kernel_rfl) (fun _ _ _ h => h.elim) (Or.inl ⟨by rfl, fun w hSw => yields_val (m := Instr.loadAt 34 (.pointer (some ⟨g, o + k, none⟩))) (by simp [execOp, ev_put_ne, ev_put_eq, put_size, e0, e3, e4, hsz]) ?_⟩) (by assumption) ?_
        · go_simp
        show wpAnyH _ _ _ _ _ _ _ (Act.put _ (some 20) _) _
        refine wpAnyH_take (i := 5) (v := .slice (some ⟨g, o, none⟩) len cap) rfl (by kernel_rfl) (by kernel_rfl) (by kernel_rfl) (fun _ _ _ h => h.elim) (Or.inl ⟨by rfl, fun w hSw => yields_val (m := pure (.slice (some ⟨g, o, none⟩) len cap)) (by simp [execOp, ev_put_ne, ev_put_eq, put_size, e0, e3, e4, hsz]) ?_⟩) (by assumption) ?_
        · go_simp
        show wpAnyH _ _ _ _ _ _ _ (Act.put _ (some 21) _) _
        refine wpAnyH_take (i := 6) (v := .int .i64 k) rfl (by kernel_rfl) (by kernel_rfl) (by kernel_rfl) (fun _ _ _ h => h.elim) (Or.inl ⟨by rfl, fun w hSw => yields_val (m := pure (.int .i64 k)) (by simp [execOp, ev_put_ne, ev_put_eq, put_size, e0, e3, e4, hsz]) ?_⟩) (by assumption) ?_
        · go_simp
        show wpAnyH _ _ _ _ _ _ _ (Act.put _ (some 22) _) _
        refine wpAnyH_take (i := 7) (v := .pointer (some ⟨g, o + k, none⟩)) rfl (by kernel_rfl) (by kernel_rfl) (by kernel_rfl) (fun _ _ _ h => h.elim) (Or.inl ⟨by rfl, fun w hSw => yields_val (m := Instr.indexAt 22 (.slice (some ⟨g, o, none⟩) len cap) (.int .i64 k)) (by simp [execOp, ev_put_ne, ev_put_eq, put_size, e0, e3, e4, hsz]) ?_⟩) (by assumption) ?_
        · go_simp
        show wpAnyH _ _ _ _ _ _ _ (Act.put _ (some 23) _) _
        refine wpAnyH_take (i := 8) (v := .slice B z.length d) rfl (by kernel_rfl) (by kernel_rfl) (by kernel_rfl) (fun _ _ _ h => h.elim) (Or.inl ⟨by rfl, fun w hSw => yields_val (m := Instr.loadAt 34 (.pointer (some ⟨g, o + k, none⟩))) (by simp [execOp, ev_put_ne, ev_put_eq, put_size, e0, e3, e4, hsz]) ?_⟩) (by assumption) ?_
        · go_simp
        show wpAnyH _ _ _ _ _ _ _ (Act.put _ (some 24) _) _
        refine wpAnyH_take (i := 9) (v := .int .i64 z.length) rfl (by kernel_rfl) (by kernel_rfl) (by kernel_rfl) (fun _ _ _ h => h.elim) (Or.inl ⟨by rfl, fun w hSw => ?_⟩) (by assumption) ?_
        · simp only [execOp, resolve, invoke, builtin, ev_put_ne, ev_put_eq, put_size, hsz, List.map_toArray, List.map_cons, List.map_nil, ev_const, ne_eq, Nat.reduceEqDiff, not_false_eq_true, Nat.reduceLT]
          go_simp
          try (first | (split <;> first | rfl | (congr 3; omega)) | (congr 3; omega))
        show wpAnyH _ _ _ _ _ _ _ (Act.put _ (some 25) _) _
        refine wpAnyH_take (i := 10) (v := .int .i64 q) rfl (by kernel_rfl) (by kernel_rfl) (by kernel_rfl) (fun _ _ _ h => h.elim) (Or.inl ⟨by rfl, fun w hSw => ?_⟩) (by assumption) ?_
        · simp only [execOp, resolve, invoke, builtin, ev_put_ne, ev_put_eq, put_size, hsz, List.map_toArray, List.map_cons, List.map_nil, ev_const, ne_eq, Nat.reduceEqDiff, not_false_eq_true, Nat.reduceLT]
          go_simp
          try (first | (split <;> first | rfl | (congr 3; omega)) | (congr 3; omega))
        show wpAnyH _ _ _ _ _ _ _ (Act.put _ (some 26) _) _
        refine wpAnyH_take (i := 11) (v := .slice B q d) rfl (by kernel_rfl) (by kernel_rfl) (by kernel_rfl) (fun _ _ _ h => h.elim) (Or.inl ⟨by rfl, fun w hSw => ?_⟩) (by assumption) ?_
        · simp only [execOp, resolve, invoke, builtin, ev_put_ne, ev_put_eq, put_size, hsz, List.map_toArray, List.map_cons, List.map_nil, ev_const, ne_eq, Nat.reduceEqDiff, not_false_eq_true, Nat.reduceLT]
          go_simp
          try (first | (split <;> first | rfl | (congr 3; omega)) | (congr 3; omega))
        show wpAnyH _ _ _ _ _ _ _ (Act.put _ (some 27) _) _
        have hrw : RdB wr.drew B (fewKey z) := (Hhrd.out.old HI0.out).of (Below.refl _ wr).drew
        have hby := bytes_any HI0.out.drew B (fewKey z) q d Hhfl.out hrw
        have Hhby := Lib.hid hby
        have Hhrw := Lib.hid hrw
        clear hby hrw
        refine wpAnyH_ready (rs := [12]) (by kernel_rfl) (by simp) ?_
        refine AllReadyH.cons rfl (fun K hK => ?_) AllReadyH.nil
        rw [if_pos (by rfl)]
        (with_reducible refine wp_callf (w' := wr.drew) (f := 13) (args := #[.slice B q d]) ?_ Hhby.out ?_)
        · simp only [execOp, resolve, invoke, builtin, ev_put_ne, ev_put_eq, put_size, hsz, List.map_toArray, List.map_cons, List.map_nil, ev_const, ne_eq, Nat.reduceEqDiff, not_false_eq_true, Nat.reduceLT]
          go_simp
        rintro e w2 ⟨A2, c2, rfl, h2⟩
        refine ⟨_, rfl, ?_⟩
        refine hK.out _ _ (h2.old_cell Hhcl.out) (fun hHeld => ?_)
        clear hK K
        show wpAnyH _ _ _ _ _ _ _ (Act.put _ (some 28) _) _
        refine wpAnyH_ready (rs := [13]) (by kernel_rfl) (by simp) ?_
        refine AllReadyH.cons rfl (fun K hK => ?_) AllReadyH.nil
        rw [if_pos (by rfl)]
        (with_reducible refine wp_val (v := .slice (some ⟨w2.heap.size, 0, none⟩) 1 1) (w' := w2.alloc (.cells #[.slice A2 q c2] 34)) (yields_in (m := Instr.buildSlice 22 1 #[(0, .slice A2 q c2)]) ?_ ?_) ?_)
        · simp [execOp, ev_put_ne, ev_put_eq, put_size, hsz]
        · exact run_build1B _ _ _ _
        have h3 := h2.alloc (.cells #[.slice A2 q c2] 34)
        refine hK.out _ _ (h3.old_cell Hhcl.out) (fun hHeld => ?_)
        clear hK K
        show wpAnyH _ _ _ _ _ _ _ (Act.put _ (some 29) _) _
        have hrd3 : Rd (w2.alloc (.cells #[.slice A2 q c2] 34)) 1 (some ⟨w2.heap.size, 0, none⟩) 1 [.slice A2 q c2] := blk_rd (sz := 1) (n := 1) (cs := [.slice A2 q c2]) h3 (by simp) (fun j u hj => by simpa using hj)
        obtain ⟨vs, L, hvl, h4, hput⟩ := grid_more (Inv.pull2 h3)
        obtain ⟨i0, hi, hz0, hz1, hz2⟩ := info_parts bytesInfo
        refine wpAnyH_ready (rs := [14]) (by kernel_rfl) (by simp) ?_
        refine AllReadyH.cons rfl (fun K hK => ?_) AllReadyH.nil
        rw [if_pos (by rfl)]
        (with_reducible refine wp_append_rd (W := W) (e := 34) (sz := 1) (n := k) (m := 1) (c := c') (c' := 1) (A := A') (B := some ⟨w2.heap.size, 0, none⟩) (xs := vs) (cs := [.slice A2 q c2]) (.tmp 16) (.tmp 29) 22 ?_ i0 (.slice none 0 0) 24 Try.underlying22 hi hz0 hz1 hz2 ?_ ?_ ?_ h4 ?_ hrd3 ?_ ?_ ?_ ?_)
        · rfl
        · rfl
        · decide
        · simp [ev_put_ne, ev_put_eq, put_size, hsz]
        · simp [ev_put_ne, ev_put_eq, put_size, hsz]
        · exact one_one rfl
        · unfold maxLen; omega
        · omega
        intro A6 c6 w6 h6
        have h7 := (Inv.pullL L (Inv.pullL L h6).drop).pull1
        have hl8 : (byts (fewKey z)).length = q := by rw [byts_len, Hhfl.out]
        have h8 : Inv W w6 (KeysA A6 (k + 1) c6 (fewTo zss (k + 1)) :: Rs) := by
          have := hput W w6 Rs A6 (k + 1) c6 A2 c2 (byts (fewKey z)) (by rw [hl8]; exact h7)
          rw [Hhs.out]
          unfold KeysA
          rw [List.map_append]
          exact this
        refine hK.out _ _ (h8.old_cell Hhcl.out) (fun hHeld => ?_)
        clear hK K
        show wpAnyH _ _ _ _ _ _ _ (Act.put _ (some 30) _) _
        have H8 := Lib.hid h8
        clear h6 h7 h8 h4 h3 h2 hput
        refine wpAnyH_take (i := 15) (v := .slice A6 (k + 1) c6) rfl (by kernel_rfl) (by kernel_rfl) (by kernel_rfl) (fun _ _ _ h => h.elim) (Or.inl ⟨by rfl, fun w hSw => yields_val (m := pure (.slice A6 (k + 1) c6)) (by simp [execOp, ev_put_ne, ev_put_eq, put_size, e0, e3, e4, hsz]) ?_⟩) (by assumption) ?_
        · go_simp
        show wpAnyH _ _ _ _ _ _ _ (Act.put _ (some 3) _) _
        refine wpAnyH_done (by kernel_rfl) ?_ _
        obtain rfl := HA.out
        clear hsz e0 e3 e4 HA
        simp only [calmQ, Act.put, List.setIfInBounds_toArray, List.set_cons_zero, List.set_cons_succ]
        go_wp2
        go_roundw
        case rel => exact ⟨k + 1, A6, c6, ⟨by omega, by omega⟩, rfl, by go_num, H8.out⟩
        case measure => simp [intOf]; omega
      · obtain rfl : k = 257 := by omega
        have hmk : min len 257 = 257 := by omega
        rw [hmk] at Hhm
        obtain rfl := Hhm.out
        clear hI
        go_wp2
        go_ret
        exact ⟨_, _, rfl, HI.out⟩
    · obtain rfl : k = len := by omega
      have hmk : min k 257 = k := by omega
      rw [hmk] at Hhm
      obtain rfl := Hhm.out
      clear hI
      go_wp2
      go_ret
      exact ⟨_, _, rfl, HI.out⟩
end Go.Proofs.Ytfkhnpkojnnfmaa
