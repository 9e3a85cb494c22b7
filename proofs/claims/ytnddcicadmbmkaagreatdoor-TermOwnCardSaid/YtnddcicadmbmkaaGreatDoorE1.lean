/- put's walk at a constructor's value. -/
import Derived.Test.YtnddcicadmbmkaaGreatDoorD7
import Derived.Test.YtnddcicadmbmkaaGreatDoorE0
import Derived.Test.YtnddcicadmbmkaaGreatDoorW2
import Derived.StillTailTactics
import Derived.Deep.RegionHeld3
import Derived.Deep.QuietTactic
import Derived.BigQuiet
namespace Go.Proofs.YtnddcicadmbmkaaGreatDoor
open Go.RowKit Go.Maps

set_option maxRecDepth 100000 in
set_option maxHeartbeats 1000000 in
theorem put_con (v : V) (x : Value) (m : Nat) (P : Nat → Prop) (d : Int) (st : St) (rb nb : Option Nat) (w : World) (hst : Stor w m st rb nb) (hx : IsVP P w v x) (hfar : Far P w m rb nb) (hok : v.Ok) (hmay : mayV v d = true) (h3 : v.k = 3)
    (hrec : ∀ y ∈ v.ps, ∀ (z : Value) (st : St) (rb nb : Option Nat) (w : World), Stor w m st rb nb → IsVP P w y z → Far P w m rb nb → Calls Tryz.prog 41 #[.pointer (some ⟨m + 3, 0, none⟩), z] w (GPost putV m y st rb nb w)) :
    Calls Tryz.prog 41 #[.pointer (some ⟨m + 3, 0, none⟩), x] w (GPost putV m v st rb nb w) := by
  obtain ⟨a, cap, rfl, hcap, hel⟩ := hx.open
  have hrows := hst.rows
  have hlen := ok_len hok
  have HX := Lib.hid hx
  have HOK := Lib.hid hok
  have HST := Lib.hid hst
  obtain ⟨W0, hW0⟩ : ∃ W0, W0 = w.alloc (.cells #[.int .i64 v.k, .int .i64 v.n, .string v.s, .slice a v.ps.length cap] 24) := ⟨_, rfl⟩
  have hb0 : W0.heap[w.heap.size]? = some (.cells #[.int .i64 v.k, .int .i64 v.n, .string v.s, .slice a v.ps.length cap] 24 (0, 0)) := by rw [hW0]; exact heap_alloc_new _ _
  have hB0 : Below w.heap.size w W0 := by rw [hW0]; exact (Below.refl _ _).alloc (Nat.le_refl _) _
  have HW0 := Lib.hid hW0
  have Hb0 := Lib.hid hb0
  have HB0 := Lib.hid hB0
  have hz0 : w.heap.size < W0.heap.size := heap_lt hb0
  have HS0 := Lib.hid (stor_new hst hB0)
  have hk1 : (v.k == 1) = false := by simp [h3]
  have hk2 : (v.k == 2) = false := by simp [h3]
  have hmc := mayV_con v d h3
  rw [hmay] at hmc
  simp only [Bool.and_eq_true, decide_eq_true_eq, eq_comm (a := true)] at hmc
  obtain ⟨⟨⟨⟨-, -⟩, h8⟩, -⟩, -⟩ := hmc
  have hp := Lib.hid (putV_con v st (by omega) (by omega))
  have hkey := key_put putV v _ m P st rb nb W0 HS0.out (HX.out.below hfar HB0.out) (hfar.size HB0.out.size) HOK.out h8 hrec
  rw [← putVs_fold] at hkey
  obtain ⟨c0, c1, c2, c3⟩ := block4 Hb0.out
  have HKEY := Lib.hid hkey
  clear hkey h3 hst hel hx hok hmay hrec hW0 hB0 hb0 hfar
  go_enter Tryz.func41, Tryz.ntmps41
  go_wp2_with fail
  rw [← HW0.out]
  refine HKEY.out.mono ?_
  rintro e w1 ⟨q, rfl, hq, rb1, nb1, hst1, hl1, hl2, hf1⟩
  have HQ := Lib.hid hq
  have HST1 := Lib.hid hst1
  have HL1 := Lib.hid hl1
  have HL2 := Lib.hid hl2
  have HF1 := Lib.hid hf1
  clear hq hst1 hl1 hl2 hf1 c0 c1 c2 c3
  obtain ⟨er, her⟩ : ∃ er, (putVs v.ps st).2.1 = er := ⟨_, rfl⟩
  rw [her]
  have HER := Lib.hid her
  clear her hrows
  obtain ⟨cs, hnd⟩ : ∃ cs : List Value, ndP v.s v.ps.length q = cs.toArray := ⟨(ndP v.s v.ps.length q).toList, by simp⟩
  have hCs : cs.toArray.size = 18 := by rw [← hnd]; rfl
  have hone : cs.toArray.all (·.oneCell') = true := by rw [← hnd]; exact all_oneCell_toArray (ndP_one v.s v.ps.length q)
  have hth : (w1.alloc (.cells #[.string ⟨#[]⟩, .int .i64 0, .int .i64 0, .int .i64 0, .int .i64 0, .int .i64 0, .int .i64 0, .int .i64 0, .int .i64 0, .int .i64 0, .int .i64 0, .int .i64 0, .int .i64 0, .int .i64 0, .int .i64 0, .int .i64 0, .int .i64 0, .int .i64 0] 77)).there w1.heap.size 0 cs.toArray.size := by rw [hCs]; exact there_new w1 #[.string ⟨#[]⟩, .int .i64 0, .int .i64 0, .int .i64 0, .int .i64 0, .int .i64 0, .int .i64 0, .int .i64 0, .int .i64 0, .int .i64 0, .int .i64 0, .int .i64 0, .int .i64 0, .int .i64 0, .int .i64 0, .int .i64 0, .int .i64 0, .int .i64 0] 77
  have hz77 : (Tryz.prog.info? 77).map (·.size) = some cs.toArray.size := by rw [hCs]; exact size77
  obtain ⟨W2, hW2⟩ : ∃ W2, W2 = (w1.alloc (.cells #[.string ⟨#[]⟩, .int .i64 0, .int .i64 0, .int .i64 0, .int .i64 0, .int .i64 0, .int .i64 0, .int .i64 0, .int .i64 0, .int .i64 0, .int .i64 0, .int .i64 0, .int .i64 0, .int .i64 0, .int .i64 0, .int .i64 0, .int .i64 0, .int .i64 0] 77)).setCells w1.heap.size 0 cs.toArray.toList := ⟨_, rfl⟩
  obtain ⟨hb2, hB2⟩ := new_store w1 #[.string ⟨#[]⟩, .int .i64 0, .int .i64 0, .int .i64 0, .int .i64 0, .int .i64 0, .int .i64 0, .int .i64 0, .int .i64 0, .int .i64 0, .int .i64 0, .int .i64 0, .int .i64 0, .int .i64 0, .int .i64 0, .int .i64 0, .int .i64 0, .int .i64 0] cs.toArray 77 (by rw [hCs]; rfl)
  rw [← hW2] at hb2 hB2
  rw [hnd]
  have HND := Lib.hid hnd
  have HCS := Lib.hid hCs
  have HONE := Lib.hid hone
  have HTH := Lib.hid hth
  have HZ := Lib.hid hz77
  have HW2 := Lib.hid hW2
  have Hb2 := Lib.hid hb2
  have HB2 := Lib.hid hB2
  clear hnd hCs hone hth hz77 hW2 hb2 hB2
  by_cases he : er = 0
  · have he1 : (er != 0) = false := by simp [he]
    have HEZ := Lib.hid he
    clear he
    have HQE := Lib.hid (HQ.out (HER.out.trans HEZ.out))
    have hlq : q.length = v.ps.length := by rw [HQE.out, putVs_fold]; exact fold_len putV v.ps st (by rw [← putVs_fold]; exact HER.out.trans HEZ.out)
    have HLQ := Lib.hid hlq
    clear hlq
    go_wp2_with (refine wpList_store_mid rfl 77 (.tmp 6) (.tmp 33) rfl w1.heap.size 0 cs.toArray (by rfl) (by rfl) HTH.out HZ.out HONE.out ?_)
    rw [← HW2.out]
    obtain ⟨sv2, nv2, D2, D2', n2, n2', hsto⟩ := stor_new HST1.out HB2.out
    have HSTO := Lib.hid hsto
    have hnok : NdOk (v.s, q) := ⟨by show v.s.size ≤ _; unfold maxLen; have := ok_str HOK.out; omega, by show q.length ≤ 8; rw [HLQ.out]; exact h8, by
      obtain ⟨_, _, _, _, _, _, h0⟩ := HST.out
      have := (putVs_wf v.ps (ok_parts HOK.out) h0.lens).1
      rw [← HQE.out] at this
      exact this⟩
    have hdr : Sto W2.drew m (putVs v.ps st).2.2.1 (putVs v.ps st).2.2.2 rb1 nb1 sv2 nv2 D2 D2' n2 n2' := hsto.syms_put (Sy.Fr.of_below (Below.refl W2.heap.size W2).drew) (hsto.syms.kept (Sy.Fr.of_below (S := fun _ => False) (Below.refl W2.heap.size W2).drew) (fun _ _ h => h))
    have hlk := look77 hdr hnok
    rw [← ndP_all, HLQ.out, HND.out] at hlk
    have hld : W2.drew.heap[w1.heap.size]? = some (.cells cs.toArray 77 (0, 0)) := Hb2.out
    obtain ⟨c, hc⟩ : ∃ c : Nat, nnum (putVs v.ps st).2.2.2 (v.s, q) = c := ⟨_, rfl⟩
    obtain ⟨b, hb⟩ : ∃ b, nhas (putVs v.ps st).2.2.2 (v.s, q) = b := ⟨_, rfl⟩
    rw [hc, hb] at hlk
    have hrg := range_of hld
    rw [List.toList_toArray] at hrg
    have hl55 : W2.drew.cell? ⟨m + 3, 2, none⟩ = some (.map (some (m + 2))) := hdr.c.2.2
    have HLK := Lib.hid hlk
    have hld2 := load77 (W := W2.drew) (b := w1.heap.size) (show W2.drew.heap[w1.heap.size]? = some (.cells (ndP v.s v.ps.length q) 77 (0, 0)) from by rw [HND.out]; exact Hb2.out)
    rw [HND.out] at hld2
    have HLD := Lib.hid hld2
    have HLDA := Lib.hid (show ∀ W' : World, W'.heap[w1.heap.size]? = some (.cells cs.toArray 77 (0, 0)) → (Instr.loadAt 77 (.pointer (some ⟨w1.heap.size, 0, none⟩))).run Tryz.prog W' = .ok (.agg cs.toArray) W' from fun W' hW' => by
      have := load77 (W := W') (b := w1.heap.size) (s := v.s) (n := v.ps.length) (l := q) (t := 77) (z := (0, 0)) (by rw [HND.out]; exact hW')
      rwa [HND.out] at this)
    have HKEYQ := Lib.hid (show keyOf Tryz.prog 77 (.agg cs.toArray) = some (nk (v.s, q)) from by rw [← HND.out]; have := nk_eq hnok; rwa [← ndP_all, HLQ.out] at this)
    have HDR := Lib.hid hdr
    have HNOK := Lib.hid hnok
    have HC := Lib.hid hc
    have HBB := Lib.hid hb
    obtain ⟨s0, s1, s2⟩ := hsto.c
    have HSTO := Lib.hid hsto
    clear hlk hld hdr hc hb hsto hnok hrg hl55 hld2
    refine wp_region_still_lit (by kernel_rfl) (by kernel_rfl) ?_
    iterate 4 still_step
    refine wpStill_load rfl 77 (.tmp 6) rfl _ _ (by rfl) HLD.out ?_
    refine wpStill_lookup rfl 55 (.tmp 42) (.tmp 43) true rfl _ _ _ (by rfl) (by rfl) HLK.out ?_
    iterate 5 still_step
    refine wpStill_nil ?_
    have hp' := hp.out
    rw [HER.out, if_neg (by simp [HEZ.out]), ← HQE.out, nput] at hp'
    have HPP := Lib.hid hp'
    have HFR := Lib.hid (((Sy.Fr.of_below (S := SFoot m rb nb) HB0.out).trans HF1.out).trans (Sy.Fr.of_below HB2.out))
    have HLR1 := Lib.hid (show Later w.heap.size rb rb1 from by
      rcases HL1.out with h | ⟨k, h, hk⟩
      · exact .inl h
      · exact .inr ⟨k, h, by omega⟩)
    have HLR2 := Lib.hid (show Later w.heap.size nb nb1 from by
      rcases HL2.out with h | ⟨k, h, hk⟩
      · exact .inl h
      · exact .inr ⟨k, h, by omega⟩)
    clear hp'
    cases b with
    | true =>
      go_wp2_with fail
      go_ret2
      have hp' := HPP.out
      rw [if_pos HBB.out] at hp'
      have hcn := HC.out
      rw [nnum_yes (nhas_iff.1 HBB.out)] at hcn
      refine ⟨by rw [hp', hcn]; rfl, rb1, nb1, ?_, HLR1.out, HLR2.out, HFR.out.trans (Sy.Fr.of_below (Below.refl _ _).drew)⟩
      rw [hp']
      exact ⟨_, _, _, _, _, _, HDR.out⟩
    | false =>
      have hlen2 := HSTO.out.len
      obtain ⟨cap2, a2, rfl⟩ : ∃ cap a, nv2 = .slice a (putVs v.ps st).2.2.2.length cap := by
        rcases HSTO.out.row.2 with ⟨h1, h2⟩ | ⟨g, cap, cur, h1, _⟩
        · exact ⟨0, none, by rw [h1, h2]⟩
        · exact ⟨cap, _, h1⟩
      by_cases hfull : 16384 ≤ (putVs v.ps st).2.2.2.length
      · go_wp2_with fail
        go_ret2
        have hp' := HPP.out
        rw [HBB.out, if_neg (by simp), if_pos hfull] at hp'
        refine ⟨by rw [hp']; rfl, rb1, nb1, ?_, HLR1.out, HLR2.out, HFR.out.trans (Sy.Fr.of_below (Below.refl _ _).drew)⟩
        rw [hp']
        exact ⟨_, _, _, _, _, _, HDR.out⟩
      · go_wp2_with fail
        have hg6 : w1.heap.size < W2.heap.size := heap_lt Hb2.out
        obtain ⟨W3, hW3⟩ : ∃ W3, W2.drew = W3 := ⟨_, rfl⟩
        have hdr3 := HDR.out
        have hb3 : W2.drew.heap[w1.heap.size]? = some (.cells cs.toArray 77 (0, 0)) := Hb2.out
        have hB3 : Below W2.heap.size W2 W2.drew := (Below.refl _ _).drew
        rw [hW3] at hdr3 hb3 hB3
        rw [hW3]
        have HB3 := Lib.hid hB3
        have Hb3 := Lib.hid hb3
        have HFR3 := Lib.hid (HFR.out.trans (Sy.Fr.of_below hB3))
        have hdd : Sto W3.drew m (putVs v.ps st).2.2.1 (putVs v.ps st).2.2.2 rb1 nb1 sv2 (.slice a2 (putVs v.ps st).2.2.2.length cap2) D2 D2' n2 n2' := hdr3.syms_put (Sy.Fr.of_below (Below.refl W3.heap.size W3).drew) (hdr3.syms.kept (Sy.Fr.of_below (S := fun _ => False) (Below.refl W3.heap.size W3).drew) (fun _ _ h => h))
        obtain ⟨t0, t1, t2⟩ := hdr3.c
        have hown := hdd.map
        have hfew := hdd.few
        have HDD := Lib.hid hdd
        have HDR3 := Lib.hid hdr3
        clear hdd hW3 hb3 hB3 hdr3 s0 s1 s2
        refine wp_region_still_tail 6 (by kernel_rfl) (by kernel_rfl) ?_
        simp only [List.take_succ_cons, List.take_zero, List.drop_succ_cons, List.drop_zero]
        iterate 4 still_step
        refine wpStill_load rfl 77 (.tmp 6) rfl _ _ (by rfl) (HLDA.out W3.drew Hb3.out) ?_
        still_step
        refine wpStill_nil ?_
        change wpList _ _ _ _ _ W3.drew
        refine wpList_mapUpdate_own _ rfl _ _ _ 55 rfl 77 3 law77 Tryz.underlying55 (plainElem (H := Unit) Tryz.prog 3) (m + 2) n2' _ (by rfl) hown (by unfold maxLen; omega) _ _ _ (by rfl) (by rfl) HKEYQ.out _ [] (plainElem_int Tryz.underlying3 (WalkArith.wf_i64 (by omega))) ?_
        intro w3 hown3 hg3
        have h1c : w3.cell? ⟨m + 3, 1, none⟩ = some (.slice a2 (putVs v.ps st).2.2.2.length cap2) := by
          have := HDD.out.c.2.1
          exact (World.cell?_of_block (a := ⟨m + 3, 1, none⟩) (hg3.block (m + 3) (heap_lt HDD.out.cells) (by simp))).trans this
        have h1f : w3.frozen? ⟨m + 3, 1, none⟩ = false := free_of ((hg3.block (m + 3) (heap_lt HDD.out.cells) (by simp)).trans HDD.out.cells)
        have h1b : w3.heap[w1.heap.size]? = some (.cells cs.toArray 77 (0, 0)) := (hg3.block w1.heap.size (by have := HB3.out.size; simp; omega) (by have := HST1.out.rows; simp; omega)).trans Hb3.out
        have HG3 := Lib.hid hg3
        have HOWN3 := Lib.hid hown3
        have H1B := Lib.hid h1b
        clear hown hfew hown3 hg3 h1b t0 t1 t2
        go_wp2_with fail
        have L54 := Lib.hid (load54 (show w3.drew.cell? ⟨m + 3, 1, none⟩ = some (.slice a2 (putVs v.ps st).2.2.2.length cap2) from h1c))
        have L54A := Lib.hid (load54 (show (w3.drew.alloc (.cells cs.toArray 77)).cell? ⟨m + 3, 1, none⟩ = some (.slice a2 (putVs v.ps st).2.2.2.length cap2) from (World.cell?_alloc_some w3.drew _ _ (by rw [show w3.drew.cell? ⟨m + 3, 1, none⟩ = _ from h1c]; rfl)).trans h1c))
        have L77 := Lib.hid (HLDA.out w3.drew H1B.out)
        have B77 := Lib.hid (build77' HND.out HLQ.out w3.drew)
        clear h1c h1f
        obtain ⟨i7, hi7, hz7, hs7, hy7⟩ := info77
        have hl18 : cs.length = 1 * 18 := by simpa using HCS.out
        have hbase : m + 4 ≤ (w3.drew.alloc (.cells cs.toArray 77)).heap.size := by have h1 := HG3.out.size; have h2 := HDD.out.cells; have h3 := heap_lt h2; simp at h1 ⊢; simp at h3; omega
        have HROW := Lib.hid (show (w3.drew.alloc (.cells cs.toArray 77)).ownsRow (m + 4) 77 18 (.slice a2 (putVs v.ps st).2.2.2.length cap2) (putVs v.ps st).2.2.2.length ((putVs v.ps st).2.2.2.flatMap fun n => (ndC n).toList) from (show w3.drew.ownsRow (m + 4) 77 18 (.slice a2 (putVs v.ps st).2.2.2.length cap2) (putVs v.ps st).2.2.2.length ((putVs v.ps st).2.2.2.flatMap fun n => (ndC n).toList) from (show w3.ownsRow (m + 4) 77 18 (.slice a2 (putVs v.ps st).2.2.2.length cap2) (putVs v.ps st).2.2.2.length ((putVs v.ps st).2.2.2.flatMap fun n => (ndC n).toList) from HDD.out.row.kept HG3.out (own_ne4 (fun k hk => (HDD.out.row.lt k hk).1)))).alloc _)
        have HNEWS := Lib.hid (show ∀ j u, cs[j]? = some u → (w3.drew.alloc (.cells cs.toArray 77)).cell? ((⟨w3.drew.heap.size, 0, none⟩ : Addr).add j) = some u from fun j u hu => World.news_of_block (heap_alloc_new w3.drew (.cells cs.toArray 77)) j u (by simpa using hu))
        have HCSQ := Lib.hid (show cs = (ndC (v.s, q)).toList from by rw [← ndP_all, HLQ.out, HND.out])
        have HONEL := Lib.hid (show ∀ u ∈ cs, u.oneCell' = true from by have := HONE.out; simpa using this)
        have HC4 := Lib.hid (show ∀ w4, (w3.drew.alloc (.cells cs.toArray 77)).grownBy w4 (Value.slice a2 (putVs v.ps st).2.2.2.length cap2).ownBlock → w4.cell? ⟨m + 3, 1, none⟩ = some (.slice a2 (putVs v.ps st).2.2.2.length cap2) ∧ w4.frozen? ⟨m + 3, 1, none⟩ = false from fun w4 h4 => by
          have hb := (h4.block (m + 3) (by omega) (fun e => by have := (HDD.out.row.lt _ e.symm).1; omega)).trans ((heap_alloc_old _ _ (by have h1 := HG3.out.size; have h3 := heap_lt HDD.out.cells; simp at h1 h3 ⊢; omega)).trans ((hg3b HG3.out HDD.out.cells)))
          exact ⟨by rw [cell_of hb]; rfl, free_of hb⟩)
        refine wp_region_any (by kernel_rfl) ?_
        change wpAny _ _ _ _ _ _ _ w3.drew
        refine wpAny_take (i := 0) (oi := { dst := some 68, op := .move (.tmp 0), type := 31, pos := "term.go:181", after := #[], guard := none }) (v := .pointer (some ⟨m + 3, 0, none⟩)) rfl (by kernel_rfl) (by kernel_rfl) (by kernel_rfl) (fun _ _ _ h => h) (Or.inl ⟨by rfl, ?_⟩) ?_
        · intro w
          go_simp
        simp only [Act.put, List.setIfInBounds_toArray, List.set_cons_zero, List.set_cons_succ]
        refine wpAny_take (i := 1) (oi := { dst := some 69, op := .move (.tmp 0), type := 31, pos := "term.go:181", after := #[], guard := none }) (v := .pointer (some ⟨m + 3, 0, none⟩)) rfl (by kernel_rfl) (by kernel_rfl) (by kernel_rfl) (fun _ _ _ h => h) (Or.inl ⟨by rfl, ?_⟩) ?_
        · intro w
          go_simp
        simp only [Act.put, List.setIfInBounds_toArray, List.set_cons_zero, List.set_cons_succ]
        refine wpAny_take (i := 2) (oi := { dst := some 70, op := .nilCheck (.tmp 69), type := 0, pos := "term.go:181", after := #[{ on := 1, ground := .data }], guard := none }) (v := .pointer (some ⟨m + 3, 0, none⟩)) rfl (by kernel_rfl) (by kernel_rfl) (by kernel_rfl) (fun _ _ _ h => h) (Or.inl ⟨by rfl, ?_⟩) ?_
        · intro w
          go_simp
        simp only [Act.put, List.setIfInBounds_toArray, List.set_cons_zero, List.set_cons_succ]
        refine wpAny_take (i := 3) (oi := { dst := some 71, op := .fieldAddr 57 (.tmp 70) 1, type := 0, pos := "term.go:181", after := #[{ on := 2, ground := .data }], guard := none }) (v := .pointer (some ⟨m + 3, 1, none⟩)) rfl (by kernel_rfl) (by kernel_rfl) (by kernel_rfl) (fun _ _ _ h => h) (Or.inl ⟨by rfl, ?_⟩) ?_
        · intro w
          go_simp
        simp only [Act.put, List.setIfInBounds_toArray, List.set_cons_zero, List.set_cons_succ]
        refine wpAny_ready (rs := [4, 5]) (by kernel_rfl) (by simp) ?_
        refine AllReady.cons (o := { dst := some 72, op := .load 54 (.tmp 71), type := 54, pos := "term.go:181", after := #[{ on := 3, ground := .data }], guard := none }) rfl (fun K hK => ?_) (AllReady.cons (o := { dst := some 73, op := .load 77 (.tmp 6), type := 77, pos := "term.go:181", after := #[], guard := none }) rfl (fun K hK => ?_) AllReady.nil)
        · refine step_load rfl 54 (.tmp 71) rfl _ _ (by rfl) L54.out ?_
          refine hK _ _ ?_
          clear hK K
          try simp only [Act.put, List.setIfInBounds_toArray, List.set_cons_zero, List.set_cons_succ]
          refine wpAny_ready (rs := [5]) (by kernel_rfl) (by simp) ?_
          refine AllReady.cons (o := { dst := some 73, op := .load 77 (.tmp 6), type := 77, pos := "term.go:181", after := #[], guard := none }) rfl (fun K hK => ?_) AllReady.nil
          refine step_load rfl 77 (.tmp 6) rfl _ _ (by rfl) L77.out ?_
          refine hK _ _ ?_
          clear hK K
          try simp only [Act.put, List.setIfInBounds_toArray, List.set_cons_zero, List.set_cons_succ]
          refine wpAny_ready (rs := [6]) (by kernel_rfl) (by simp) ?_
          refine AllReady.cons (o := { dst := some 74, op := .buildSlice 54 1 #[(0, .tmp 73)], type := 54, pos := "term.go:181", after := #[{ on := 5, ground := .data }], guard := none }) rfl (fun K hK => ?_) AllReady.nil
          refine step_build rfl 54 1 (.tmp 73) rfl _ _ (by rfl) B77.out ?_
          refine hK _ _ ?_
          clear hK K
          try simp only [Act.put, List.setIfInBounds_toArray, List.set_cons_zero, List.set_cons_succ]
          refine wpAny_ready (rs := [7]) (by kernel_rfl) (by simp) ?_
          refine AllReady.cons (o := { dst := some 75, op := .call { callee := .builtin .append, args := #[.tmp 72, .tmp 74], argTypes := #[54, 54] }, type := 54, pos := "term.go:181", after := #[{ on := 4, ground := .data }, { on := 6, ground := .data }], guard := none }) rfl (fun K hK => ?_) AllReady.nil
          refine step_append_lies _ (by rfl) (.tmp 72) (.tmp 74) 54 (by rfl) (m + 4) 77 i7 _ 18 152 Tryz.underlying54 hi7 hz7 hs7 hy7 rfl (by omega) (.slice a2 (putVs v.ps st).2.2.2.length cap2) (putVs v.ps st).2.2.2.length _ (by rfl) HROW.out ⟨w3.drew.heap.size, 0, none⟩ 1 1 cs (by rfl) hl18 HNEWS.out HONEL.out (by omega) (by unfold maxLen; omega) (by omega) hbase _ rfl ?_
          intro g cap4 w4 hown4 hg4 hat4 hlt4
          refine hK _ _ ?_
          clear hK K
          try simp only [Act.put, List.setIfInBounds_toArray, List.set_cons_zero, List.set_cons_succ]
          obtain ⟨h4c, h4f⟩ := HC4.out w4 hg4
          have HG4 := Lib.hid hg4
          have HOWN4 := Lib.hid hown4
          have HAT4 := Lib.hid hat4
          clear hown4 hg4 hat4
          refine wpAny_take (i := 8) (oi := { dst := some 76, op := .nilCheck (.tmp 68), type := 0, pos := "term.go:181", after := #[{ on := 0, ground := .data }, { on := 0, ground := .phase }, { on := 1, ground := .phase }, { on := 2, ground := .phase }, { on := 3, ground := .phase }, { on := 4, ground := .phase }, { on := 5, ground := .phase }, { on := 6, ground := .phase }, { on := 7, ground := .phase }], guard := none }) (v := .pointer (some ⟨m + 3, 0, none⟩)) rfl (by kernel_rfl) (by kernel_rfl) (by kernel_rfl) (fun _ _ _ h => h) (Or.inl ⟨by rfl, ?_⟩) ?_
          · intro w
            go_simp
          simp only [Act.put, List.setIfInBounds_toArray, List.set_cons_zero, List.set_cons_succ]
          refine wpAny_take (i := 9) (oi := { dst := some 77, op := .fieldAddr 57 (.tmp 76) 1, type := 0, pos := "term.go:181", after := #[{ on := 8, ground := .data }, { on := 0, ground := .phase }, { on := 1, ground := .phase }, { on := 2, ground := .phase }, { on := 3, ground := .phase }, { on := 4, ground := .phase }, { on := 5, ground := .phase }, { on := 6, ground := .phase }, { on := 7, ground := .phase }], guard := none }) (v := .pointer (some ⟨m + 3, 1, none⟩)) rfl (by kernel_rfl) (by kernel_rfl) (by kernel_rfl) (fun _ _ _ h => h) (Or.inl ⟨by rfl, ?_⟩) ?_
          · intro w
            go_simp
          simp only [Act.put, List.setIfInBounds_toArray, List.set_cons_zero, List.set_cons_succ]
          refine wpAny_ready (rs := [10]) (by kernel_rfl) (by simp) ?_
          refine AllReady.cons (o := { dst := none, op := .store 54 (.tmp 77) (.tmp 75), type := 0, pos := "term.go:181", after := #[{ on := 9, ground := .data }, { on := 7, ground := .data }, { on := 7, ground := .chain }, { on := 0, ground := .phase }, { on := 1, ground := .phase }, { on := 2, ground := .phase }, { on := 3, ground := .phase }, { on := 4, ground := .phase }, { on := 5, ground := .phase }, { on := 6, ground := .phase }, { on := 7, ground := .phase }], guard := none }) rfl (fun K hK => ?_) AllReady.nil
          go_simp
          refine hK _ _ ?_
          clear hK K
          try simp only [Act.put, List.setIfInBounds_toArray, List.set_cons_zero, List.set_cons_succ]
          refine wpAny_done (by kernel_rfl) ?_ _
          go_wp2_with fail
          go_ret2
          obtain ⟨f1, f2, f3⟩ := HDD.out.node_put (nv2 := .slice (some ⟨g, 0, none⟩) ((putVs v.ps st).2.2.2.length + 1) cap4) (H := (w3.drew.alloc (.cells cs.toArray 77)).heap.size) HNOK.out (nhas_no.1 HBB.out) (by omega) HOWN3.out HG3.out (HCSQ.out ▸ HOWN4.out) HG4.out (HAT4.out.imp (fun h => h) (fun h => congrArg some h)) (by have := HG3.out.size; simp at this ⊢; omega)
          have hp' := HPP.out
          rw [HBB.out, if_neg (by simp), if_neg hfull] at hp'
          refine ⟨by rw [hp']; rfl, rb1, some g, ?_, HLR1.out, ?_, fr_later (HFR3.out.trans (Sy.Fr.of_below (Below.refl _ _).drew)) HLR1.out HLR2.out f3⟩
          · rw [hp']
            exact ⟨_, _, _, _, _, _, f1⟩
          · exact HLR2.out.trans f2 (by have := HFR3.out.size; exact this)
        · refine step_load rfl 77 (.tmp 6) rfl _ _ (by rfl) L77.out ?_
          refine hK _ _ ?_
          clear hK K
          try simp only [Act.put, List.setIfInBounds_toArray, List.set_cons_zero, List.set_cons_succ]
          refine wpAny_ready (rs := [4, 6]) (by kernel_rfl) (by simp) ?_
          refine AllReady.cons (o := { dst := some 72, op := .load 54 (.tmp 71), type := 54, pos := "term.go:181", after := #[{ on := 3, ground := .data }], guard := none }) rfl (fun K hK => ?_) (AllReady.cons (o := { dst := some 74, op := .buildSlice 54 1 #[(0, .tmp 73)], type := 54, pos := "term.go:181", after := #[{ on := 5, ground := .data }], guard := none }) rfl (fun K hK => ?_) AllReady.nil)
          · refine step_load rfl 54 (.tmp 71) rfl _ _ (by rfl) L54.out ?_
            refine hK _ _ ?_
            clear hK K
            try simp only [Act.put, List.setIfInBounds_toArray, List.set_cons_zero, List.set_cons_succ]
            refine wpAny_ready (rs := [6]) (by kernel_rfl) (by simp) ?_
            refine AllReady.cons (o := { dst := some 74, op := .buildSlice 54 1 #[(0, .tmp 73)], type := 54, pos := "term.go:181", after := #[{ on := 5, ground := .data }], guard := none }) rfl (fun K hK => ?_) AllReady.nil
            refine step_build rfl 54 1 (.tmp 73) rfl _ _ (by rfl) B77.out ?_
            refine hK _ _ ?_
            clear hK K
            try simp only [Act.put, List.setIfInBounds_toArray, List.set_cons_zero, List.set_cons_succ]
            refine wpAny_ready (rs := [7]) (by kernel_rfl) (by simp) ?_
            refine AllReady.cons (o := { dst := some 75, op := .call { callee := .builtin .append, args := #[.tmp 72, .tmp 74], argTypes := #[54, 54] }, type := 54, pos := "term.go:181", after := #[{ on := 4, ground := .data }, { on := 6, ground := .data }], guard := none }) rfl (fun K hK => ?_) AllReady.nil
            refine step_append_lies _ (by rfl) (.tmp 72) (.tmp 74) 54 (by rfl) (m + 4) 77 i7 _ 18 152 Tryz.underlying54 hi7 hz7 hs7 hy7 rfl (by omega) (.slice a2 (putVs v.ps st).2.2.2.length cap2) (putVs v.ps st).2.2.2.length _ (by rfl) HROW.out ⟨w3.drew.heap.size, 0, none⟩ 1 1 cs (by rfl) hl18 HNEWS.out HONEL.out (by omega) (by unfold maxLen; omega) (by omega) hbase _ rfl ?_
            intro g cap4 w4 hown4 hg4 hat4 hlt4
            refine hK _ _ ?_
            clear hK K
            try simp only [Act.put, List.setIfInBounds_toArray, List.set_cons_zero, List.set_cons_succ]
            obtain ⟨h4c, h4f⟩ := HC4.out w4 hg4
            have HG4 := Lib.hid hg4
            have HOWN4 := Lib.hid hown4
            have HAT4 := Lib.hid hat4
            clear hown4 hg4 hat4
            refine wpAny_take (i := 8) (oi := { dst := some 76, op := .nilCheck (.tmp 68), type := 0, pos := "term.go:181", after := #[{ on := 0, ground := .data }, { on := 0, ground := .phase }, { on := 1, ground := .phase }, { on := 2, ground := .phase }, { on := 3, ground := .phase }, { on := 4, ground := .phase }, { on := 5, ground := .phase }, { on := 6, ground := .phase }, { on := 7, ground := .phase }], guard := none }) (v := .pointer (some ⟨m + 3, 0, none⟩)) rfl (by kernel_rfl) (by kernel_rfl) (by kernel_rfl) (fun _ _ _ h => h) (Or.inl ⟨by rfl, ?_⟩) ?_
            · intro w
              go_simp
            simp only [Act.put, List.setIfInBounds_toArray, List.set_cons_zero, List.set_cons_succ]
            refine wpAny_take (i := 9) (oi := { dst := some 77, op := .fieldAddr 57 (.tmp 76) 1, type := 0, pos := "term.go:181", after := #[{ on := 8, ground := .data }, { on := 0, ground := .phase }, { on := 1, ground := .phase }, { on := 2, ground := .phase }, { on := 3, ground := .phase }, { on := 4, ground := .phase }, { on := 5, ground := .phase }, { on := 6, ground := .phase }, { on := 7, ground := .phase }], guard := none }) (v := .pointer (some ⟨m + 3, 1, none⟩)) rfl (by kernel_rfl) (by kernel_rfl) (by kernel_rfl) (fun _ _ _ h => h) (Or.inl ⟨by rfl, ?_⟩) ?_
            · intro w
              go_simp
            simp only [Act.put, List.setIfInBounds_toArray, List.set_cons_zero, List.set_cons_succ]
            refine wpAny_ready (rs := [10]) (by kernel_rfl) (by simp) ?_
            refine AllReady.cons (o := { dst := none, op := .store 54 (.tmp 77) (.tmp 75), type := 0, pos := "term.go:181", after := #[{ on := 9, ground := .data }, { on := 7, ground := .data }, { on := 7, ground := .chain }, { on := 0, ground := .phase }, { on := 1, ground := .phase }, { on := 2, ground := .phase }, { on := 3, ground := .phase }, { on := 4, ground := .phase }, { on := 5, ground := .phase }, { on := 6, ground := .phase }, { on := 7, ground := .phase }], guard := none }) rfl (fun K hK => ?_) AllReady.nil
            go_simp
            refine hK _ _ ?_
            clear hK K
            try simp only [Act.put, List.setIfInBounds_toArray, List.set_cons_zero, List.set_cons_succ]
            refine wpAny_done (by kernel_rfl) ?_ _
            go_wp2_with fail
            go_ret2
            obtain ⟨f1, f2, f3⟩ := HDD.out.node_put (nv2 := .slice (some ⟨g, 0, none⟩) ((putVs v.ps st).2.2.2.length + 1) cap4) (H := (w3.drew.alloc (.cells cs.toArray 77)).heap.size) HNOK.out (nhas_no.1 HBB.out) (by omega) HOWN3.out HG3.out (HCSQ.out ▸ HOWN4.out) HG4.out (HAT4.out.imp (fun h => h) (fun h => congrArg some h)) (by have := HG3.out.size; simp at this ⊢; omega)
            have hp' := HPP.out
            rw [HBB.out, if_neg (by simp), if_neg hfull] at hp'
            refine ⟨by rw [hp']; rfl, rb1, some g, ?_, HLR1.out, ?_, fr_later (HFR3.out.trans (Sy.Fr.of_below (Below.refl _ _).drew)) HLR1.out HLR2.out f3⟩
            · rw [hp']
              exact ⟨_, _, _, _, _, _, f1⟩
            · exact HLR2.out.trans f2 (by have := HFR3.out.size; exact this)
          · refine step_build rfl 54 1 (.tmp 73) rfl _ _ (by rfl) B77.out ?_
            refine hK _ _ ?_
            clear hK K
            try simp only [Act.put, List.setIfInBounds_toArray, List.set_cons_zero, List.set_cons_succ]
            refine wpAny_ready (rs := [4]) (by kernel_rfl) (by simp) ?_
            refine AllReady.cons (o := { dst := some 72, op := .load 54 (.tmp 71), type := 54, pos := "term.go:181", after := #[{ on := 3, ground := .data }], guard := none }) rfl (fun K hK => ?_) AllReady.nil
            refine step_load rfl 54 (.tmp 71) rfl _ _ (by rfl) L54A.out ?_
            refine hK _ _ ?_
            clear hK K
            try simp only [Act.put, List.setIfInBounds_toArray, List.set_cons_zero, List.set_cons_succ]
            refine wpAny_ready (rs := [7]) (by kernel_rfl) (by simp) ?_
            refine AllReady.cons (o := { dst := some 75, op := .call { callee := .builtin .append, args := #[.tmp 72, .tmp 74], argTypes := #[54, 54] }, type := 54, pos := "term.go:181", after := #[{ on := 4, ground := .data }, { on := 6, ground := .data }], guard := none }) rfl (fun K hK => ?_) AllReady.nil
            refine step_append_lies _ (by rfl) (.tmp 72) (.tmp 74) 54 (by rfl) (m + 4) 77 i7 _ 18 152 Tryz.underlying54 hi7 hz7 hs7 hy7 rfl (by omega) (.slice a2 (putVs v.ps st).2.2.2.length cap2) (putVs v.ps st).2.2.2.length _ (by rfl) HROW.out ⟨w3.drew.heap.size, 0, none⟩ 1 1 cs (by rfl) hl18 HNEWS.out HONEL.out (by omega) (by unfold maxLen; omega) (by omega) hbase _ rfl ?_
            intro g cap4 w4 hown4 hg4 hat4 hlt4
            refine hK _ _ ?_
            clear hK K
            try simp only [Act.put, List.setIfInBounds_toArray, List.set_cons_zero, List.set_cons_succ]
            obtain ⟨h4c, h4f⟩ := HC4.out w4 hg4
            have HG4 := Lib.hid hg4
            have HOWN4 := Lib.hid hown4
            have HAT4 := Lib.hid hat4
            clear hown4 hg4 hat4
            refine wpAny_take (i := 8) (oi := { dst := some 76, op := .nilCheck (.tmp 68), type := 0, pos := "term.go:181", after := #[{ on := 0, ground := .data }, { on := 0, ground := .phase }, { on := 1, ground := .phase }, { on := 2, ground := .phase }, { on := 3, ground := .phase }, { on := 4, ground := .phase }, { on := 5, ground := .phase }, { on := 6, ground := .phase }, { on := 7, ground := .phase }], guard := none }) (v := .pointer (some ⟨m + 3, 0, none⟩)) rfl (by kernel_rfl) (by kernel_rfl) (by kernel_rfl) (fun _ _ _ h => h) (Or.inl ⟨by rfl, ?_⟩) ?_
            · intro w
              go_simp
            simp only [Act.put, List.setIfInBounds_toArray, List.set_cons_zero, List.set_cons_succ]
            refine wpAny_take (i := 9) (oi := { dst := some 77, op := .fieldAddr 57 (.tmp 76) 1, type := 0, pos := "term.go:181", after := #[{ on := 8, ground := .data }, { on := 0, ground := .phase }, { on := 1, ground := .phase }, { on := 2, ground := .phase }, { on := 3, ground := .phase }, { on := 4, ground := .phase }, { on := 5, ground := .phase }, { on := 6, ground := .phase }, { on := 7, ground := .phase }], guard := none }) (v := .pointer (some ⟨m + 3, 1, none⟩)) rfl (by kernel_rfl) (by kernel_rfl) (by kernel_rfl) (fun _ _ _ h => h) (Or.inl ⟨by rfl, ?_⟩) ?_
            · intro w
              go_simp
            simp only [Act.put, List.setIfInBounds_toArray, List.set_cons_zero, List.set_cons_succ]
            refine wpAny_ready (rs := [10]) (by kernel_rfl) (by simp) ?_
            refine AllReady.cons (o := { dst := none, op := .store 54 (.tmp 77) (.tmp 75), type := 0, pos := "term.go:181", after := #[{ on := 9, ground := .data }, { on := 7, ground := .data }, { on := 7, ground := .chain }, { on := 0, ground := .phase }, { on := 1, ground := .phase }, { on := 2, ground := .phase }, { on := 3, ground := .phase }, { on := 4, ground := .phase }, { on := 5, ground := .phase }, { on := 6, ground := .phase }, { on := 7, ground := .phase }], guard := none }) rfl (fun K hK => ?_) AllReady.nil
            go_simp
            refine hK _ _ ?_
            clear hK K
            try simp only [Act.put, List.setIfInBounds_toArray, List.set_cons_zero, List.set_cons_succ]
            refine wpAny_done (by kernel_rfl) ?_ _
            go_wp2_with fail
            go_ret2
            obtain ⟨f1, f2, f3⟩ := HDD.out.node_put (nv2 := .slice (some ⟨g, 0, none⟩) ((putVs v.ps st).2.2.2.length + 1) cap4) (H := (w3.drew.alloc (.cells cs.toArray 77)).heap.size) HNOK.out (nhas_no.1 HBB.out) (by omega) HOWN3.out HG3.out (HCSQ.out ▸ HOWN4.out) HG4.out (HAT4.out.imp (fun h => h) (fun h => congrArg some h)) (by have := HG3.out.size; simp at this ⊢; omega)
            have hp' := HPP.out
            rw [HBB.out, if_neg (by simp), if_neg hfull] at hp'
            refine ⟨by rw [hp']; rfl, rb1, some g, ?_, HLR1.out, ?_, fr_later (HFR3.out.trans (Sy.Fr.of_below (Below.refl _ _).drew)) HLR1.out HLR2.out f3⟩
            · rw [hp']
              exact ⟨_, _, _, _, _, _, f1⟩
            · exact HLR2.out.trans f2 (by have := HFR3.out.size; exact this)
  · have he1 : (er != 0) = true := by simp [he]
    have HEZ := Lib.hid he
    clear he
    go_wp2_with (refine wpList_store_mid rfl 77 (.tmp 6) (.tmp 33) rfl w1.heap.size 0 cs.toArray (by rfl) (by rfl) HTH.out HZ.out HONE.out ?_)
    rw [← HW2.out]
    go_ret2
    have hp' := hp.out
    rw [HER.out, if_pos HEZ.out] at hp'
    refine ⟨by rw [hp']; rfl, rb1, nb1, ?_, ?_, ?_, ?_⟩
    · rw [hp']; exact stor_new HST1.out HB2.out
    · rcases HL1.out with h | ⟨k, h, hk⟩
      · exact .inl h
      · exact .inr ⟨k, h, by omega⟩
    · rcases HL2.out with h | ⟨k, h, hk⟩
      · exact .inl h
      · exact .inr ⟨k, h, by omega⟩
    · exact ((Sy.Fr.of_below HB0.out).trans HF1.out).trans (Sy.Fr.of_below HB2.out)
end Go.Proofs.YtnddcicadmbmkaaGreatDoor
