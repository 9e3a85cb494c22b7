/- The document's Put (22), Get (29), Back (26). The document's Back (26); the program's Back (25) where there is nothing. The two stores beside one another, played the same values. TermStores' walk. Values that may be written over: what spoil (func 23) leaves of a world. Back once more: what it answers may be written over (printed by genbackw.py). copied (func 20): a value of its own (printed by gencopy.py). TermOwn's walk. TermOwn's walk, whole. -/
import Derived.Test.YtnddcicadmbmkaaGreatDoorK5
import Derived.Test.YtnddcicadmbmkaaGreatDoorK
namespace Go.Proofs.YtnddcicadmbmkaaGreatDoor
open Go.RowKit Go.Maps

theorem later_le {s t : Nat} {a b : Option Nat} (h : Later t a b) (hs : s ≤ t) : Later s a b := by
  rcases h with h | ⟨k, h, hk⟩
  · exact .inl h
  · exact .inr ⟨k, h, by omega⟩

set_option maxRecDepth 100000 in
set_option maxHeartbeats 1000000 in
theorem rsput_any (B b : Nat) (v : V) (x : Value) (rs : RS) (rb cb : Option Nat) (w : World) (hst : RStor B w b rs rb cb) (hx : IsVP (fun k => k < B) w v x) (hok : v.Ok) (hr : rightV v = true) :
    Calls Tryz.prog 22 #[.pointer (some ⟨b, 0, none⟩), x] w (RPost B b v rs rb cb w) := by
  obtain ⟨a, cap, rfl, hcap, hel⟩ := hx.open
  have hrows := hst.rows
  have hmay : mayV v 0 = true := right_may hr
  have HX := Lib.hid hx
  have HOK := Lib.hid hok
  have HR := Lib.hid hr
  have HM := Lib.hid hmay
  obtain ⟨W0, hW0⟩ : ∃ W0, W0 = w.alloc (.cells #[.int .i64 v.k, .int .i64 v.n, .string v.s, .slice a v.ps.length cap] 24) := ⟨_, rfl⟩
  have hb0 : W0.heap[w.heap.size]? = some (.cells #[.int .i64 v.k, .int .i64 v.n, .string v.s, .slice a v.ps.length cap] 24 (0, 0)) := by rw [hW0]; exact heap_alloc_new _ _
  have hB0 : Below w.heap.size w W0 := by rw [hW0]; exact (Below.refl _ _).alloc (Nat.le_refl _) _
  have HS0 := Lib.hid (hst.new hB0)
  have HW0 := Lib.hid hW0
  have Hb0 := Lib.hid hb0
  have HB0 := Lib.hid hB0
  have hz0 : w.heap.size < W0.heap.size := heap_lt hb0
  clear hW0 hb0 hB0 hx hok hr hmay hst hel
  go_enter Tryz.func22, Tryz.ntmps22
  go_wp2_with fail
  rw [← HW0.out]
  refine (rright_at HR.out _ B _ ((IsV.of_p HX.out (fun k hk => hk)).below (HB0.out.mono (by omega))) (by omega) HOK.out).mono ?_
  rintro e w1 ⟨rfl, hb1⟩
  have HB1 := Lib.hid hb1
  obtain ⟨d0, d1, d2, d3⟩ := block4 ((hb1.block w.heap.size hz0).trans Hb0.out)
  have hz1 := hb1.size
  have HC := Lib.hid (rput_any (v.sz + 1) B b v _ 0 rs rb cb w1 (Nat.lt_succ_self _) (HS0.out.new hb1) (HX.out.blocks (fun j hj => (hb1.block j (by omega)).trans (HB0.out.block j (by omega)))) HOK.out HM.out)
  clear hb1
  go_wp2_with fail
  refine HC.out.mono ?_
  rintro e w2 ⟨rfl, rb', nb', hst2, hl1, hl2, hf2⟩
  have HST2 := Lib.hid hst2
  have HL1 := Lib.hid hl1
  have HL2 := Lib.hid hl2
  have HF2 := Lib.hid hf2
  clear hst2 hl1 hl2 hf2 d0 d1 d2 d3 HC
  go_wp2_with fail
  go_ret2
  exact ⟨rfl, rb', nb', HST2.out, later_le HL1.out (by omega), later_le HL2.out (by omega), ((Sy.Fr.of_below HB0.out).trans (Sy.Fr.of_below HB1.out)).trans HF2.out⟩

set_option maxRecDepth 100000 in
set_option maxHeartbeats 1000000 in
theorem rsput_bad (B b : Nat) (v : V) (x : Value) (w : World) (hx : IsVP (fun k => k < B) w v x) (hB : B ≤ w.heap.size) (hok : v.Ok) (hr : rightV v = false) :
    Calls Tryz.prog 22 #[.pointer (some ⟨b, 0, none⟩), x] w fun e w' => e = .returned (.tuple #[.int .i64 0, .int .i64 1]) ∧ Below w.heap.size w w' := by
  obtain ⟨a, cap, rfl, hcap, hel⟩ := hx.open
  have HX := Lib.hid hx
  have HOK := Lib.hid hok
  have HR := Lib.hid hr
  obtain ⟨W0, hW0⟩ : ∃ W0, W0 = w.alloc (.cells #[.int .i64 v.k, .int .i64 v.n, .string v.s, .slice a v.ps.length cap] 24) := ⟨_, rfl⟩
  have hB0 : Below w.heap.size w W0 := by rw [hW0]; exact (Below.refl _ _).alloc (Nat.le_refl _) _
  have hz0 := hB0.size
  have HW0 := Lib.hid hW0
  have HB0 := Lib.hid hB0
  clear hW0 hB0 hx hok hr hel
  go_enter Tryz.func22, Tryz.ntmps22
  go_wp2_with fail
  rw [← HW0.out]
  refine (rright_at HR.out _ B _ ((IsV.of_p HX.out (fun k hk => hk)).below (HB0.out.mono (by omega))) (by omega) HOK.out).mono ?_
  rintro e w1 ⟨rfl, hb1⟩
  have HB1 := Lib.hid hb1
  clear hb1
  go_wp2_with fail
  go_ret2
  exact ⟨rfl, HB0.out.trans (HB1.out.mono (by omega))⟩

def rgetV (v : V) (rs : RS) : Int × Bool :=
  if v.k = 1 then (v.n, true) else if v.k = 2 then (((Sy.num rs.1 v.s : Nat) : Int), Sy.hasB rs.1 v.s) else (max (conN rs.2 v) 0, decide (0 ≤ conN rs.2 v))
theorem rget_agree {v : V} {d : Int} {st : St} {rs : RS} (hm : mayV v d = true) (hr : Rel st rs) : rgetV v rs = ((getV v st).1, (getV v st).2.1 == 0) := by
  unfold rgetV
  by_cases h1 : v.k = 1
  · rw [if_pos h1, getV_num v st h1]; rfl
  · rw [if_neg h1]
    by_cases h2 : v.k = 2
    · rw [if_pos h2, getV_sym v st h2, hr.1]
      by_cases hh : Sy.hasB st.1 v.s = true
      · rw [if_pos hh, hh]; rfl
      · have h0 : Sy.hasB st.1 v.s = false := by simpa using hh
        rw [if_neg hh, h0, Sy.num_no (Sy.hasB_no.1 h0)]; rfl
    · rw [if_neg h2]
      have h3 : v.k = 3 := by
        by_cases h3 : v.k = 3
        · exact h3
        · rcases may_kind hm h3 with h | h
          · exact absurd h h1
          · exact absurd h h2
      obtain ⟨a1, a2⟩ := agree_get v d st rs hm h3 hr
      by_cases he : (getV v st).2.1 = 0
      · have hc := a1 he
        have hge := conN_ge rs.2 v
        have h5 := get_back v d st hm he
        have h6 : 0 ≤ (getV v st).1 := by
          rw [h3] at h5
          cases hs : v.sz with
          | zero => rw [hs] at h5; unfold backV at h5; cases h5
          | succ g =>
            rw [hs] at h5
            unfold backV at h5
            rw [if_neg (by omega), if_neg (by omega), if_pos rfl] at h5
            by_cases hn : 0 ≤ (getV v st).1
            · exact hn
            · rw [if_neg hn] at h5; cases h5
        rw [hc, he]
        simp [h6]
        omega
      · obtain ⟨b1, b2⟩ := a2 he
        rw [b1, b2, show ((getV v st).2.1 == 0) = false from by simp [he]]
        rfl

set_option maxRecDepth 100000 in
set_option maxHeartbeats 1000000 in
theorem rsget_any (B b : Nat) (v : V) (x : Value) (rs : RS) (rb cb : Option Nat) (w : World) (hst : RStor B w b rs rb cb) (hx : IsVP (fun k => k < B) w v x) (hok : v.Ok) (hr : rightV v = true) :
    Calls Tryz.prog 29 #[.pointer (some ⟨b, 0, none⟩), x] w fun e w' => e = .returned (.tuple #[.int .i64 (rgetV v rs).1, .bool (rgetV v rs).2]) ∧ Below w.heap.size w w' := by
  obtain ⟨a, cap, rfl, hcap, hel⟩ := hx.open
  have hrows := hst.rows
  have hmay : mayV v 0 = true := right_may hr
  have HX := Lib.hid hx
  have HOK := Lib.hid hok
  have HR := Lib.hid hr
  obtain ⟨W0, hW0⟩ : ∃ W0, W0 = w.alloc (.cells #[.int .i64 v.k, .int .i64 v.n, .string v.s, .slice a v.ps.length cap] 24) := ⟨_, rfl⟩
  have hb0 : W0.heap[w.heap.size]? = some (.cells #[.int .i64 v.k, .int .i64 v.n, .string v.s, .slice a v.ps.length cap] 24 (0, 0)) := by rw [hW0]; exact heap_alloc_new _ _
  have hB0 : Below w.heap.size w W0 := by rw [hW0]; exact (Below.refl _ _).alloc (Nat.le_refl _) _
  have HS0 := Lib.hid (hst.new hB0)
  have HW0 := Lib.hid hW0
  have Hb0 := Lib.hid hb0
  have HB0 := Lib.hid hB0
  have hz0 : w.heap.size < W0.heap.size := heap_lt hb0
  have hkk : v.k = 1 ∨ v.k = 2 ∨ v.k = 3 := by
    by_cases h3 : v.k = 3
    · exact .inr (.inr h3)
    · rcases may_kind hmay h3 with h | h
      · exact .inl h
      · exact .inr (.inl h)
  clear hW0 hb0 hB0 hx hok hr hmay hst hel
  rcases hkk with hk | hk | hk
  · have hk1 : (v.k == 1) = true := by simp [hk]
    have hg := Lib.hid (show rgetV v rs = (v.n, true) from by unfold rgetV; rw [if_pos hk])
    clear hk
    go_enter Tryz.func29, Tryz.ntmps29
    go_wp2_with fail
    rw [← HW0.out]
    refine (rright_at HR.out _ B _ ((IsV.of_p HX.out (fun k hk => hk)).below (HB0.out.mono (by omega))) (by omega) HOK.out).mono ?_
    rintro e w1 ⟨rfl, hb1⟩
    have HB1 := Lib.hid hb1
    obtain ⟨d0, d1, d2, d3⟩ := block4 ((hb1.block w.heap.size hz0).trans Hb0.out)
    clear hb1
    go_wp2_with fail
    go_ret2
    exact ⟨by rw [hg.out]; rfl, HB0.out.trans (HB1.out.mono (by omega))⟩
  · have hk1 : (v.k == 1) = false := by simp [hk]
    have hk2 : (v.k == 2) = true := by simp [hk]
    have hg := Lib.hid (show rgetV v rs = (((Sy.num rs.1 v.s : Nat) : Int), Sy.hasB rs.1 v.s) from by unfold rgetV; rw [if_neg (by omega), if_pos hk])
    clear hk
    go_enter Tryz.func29, Tryz.ntmps29
    go_wp2_with fail
    rw [← HW0.out]
    refine (rright_at HR.out _ B _ ((IsV.of_p HX.out (fun k hk => hk)).below (HB0.out.mono (by omega))) (by omega) HOK.out).mono ?_
    rintro e w1 ⟨rfl, hb1⟩
    have HB1 := Lib.hid hb1
    obtain ⟨d0, d1, d2, d3⟩ := block4 ((hb1.block w.heap.size hz0).trans Hb0.out)
    obtain ⟨C, tv, cv, hC, hsto⟩ := (HS0.out.new hb1).new ((Below.refl _ _).drew : Below w1.heap.size w1 w1.drew)
    have HT := Lib.hid hsto.rtab
    have HD2 : Hid (w1.drew.cell? ⟨w.heap.size, 2, none⟩ = some (.string v.s)) := Lib.hid d2
    clear hb1 hsto hC
    go_wp2_with fail
    go_region_held3 (fun w' => w'.cell? ⟨w.heap.size, 2, none⟩ = some (.string v.s)) (first | exact HD2.out | assumption) (first | (go_at_call 46; refine (Sy.rget_any b rs.1 rb tv v.s _ HT.out).mono ?_; rintro e w7 ⟨rfl, rfl⟩))
    go_wp2_with fail
    go_ret2
    exact ⟨by rw [hg.out]; rfl, (HB0.out.trans (HB1.out.mono (by omega))).drew⟩
  · have hk1 : (v.k == 1) = false := by simp [hk]
    have hk2 : (v.k == 2) = false := by simp [hk]
    have hg := Lib.hid (show rgetV v rs = (max (conN rs.2 v) 0, decide (0 ≤ conN rs.2 v)) from by unfold rgetV; rw [if_neg (by omega), if_neg (by omega)])
    clear hk
    go_enter Tryz.func29, Tryz.ntmps29
    go_wp2_with fail
    rw [← HW0.out]
    refine (rright_at HR.out _ B _ ((IsV.of_p HX.out (fun k hk => hk)).below (HB0.out.mono (by omega))) (by omega) HOK.out).mono ?_
    rintro e w1 ⟨rfl, hb1⟩
    have HB1 := Lib.hid hb1
    have hz1 := hb1.size
    obtain ⟨d0, d1, d2, d3⟩ := block4 ((hb1.block w.heap.size hz0).trans Hb0.out)
    obtain ⟨C, tv, cv, hC, hsto⟩ := HS0.out.new hb1
    have HC := Lib.hid (rcon_any B b rs.1 C rb cb tv cv v _ w1 hsto (IsV.of_p (HX.out.blocks (fun j hj => (hb1.block j (by omega)).trans (HB0.out.block j (by omega)))) (fun _ h => h)) HOK.out)
    have HCC := Lib.hid hC
    clear hb1 hsto hC
    go_wp2_with fail
    refine HC.out.mono ?_
    rintro e w2 ⟨rfl, hb2⟩
    rw [HCC.out]
    have HB2 := Lib.hid (HB0.out.trans ((HB1.out.trans (hb2.mono hz1)).mono (by omega)))
    clear hb2 d0 d1 d2 d3 HC
    go_wp2_with fail
    go_ret2
    exact ⟨by rw [hg.out]; rfl, HB2.out⟩

set_option maxRecDepth 100000 in
set_option maxHeartbeats 1000000 in
theorem rsget_bad (B b : Nat) (v : V) (x : Value) (w : World) (hx : IsVP (fun k => k < B) w v x) (hB : B ≤ w.heap.size) (hok : v.Ok) (hr : rightV v = false) :
    Calls Tryz.prog 29 #[.pointer (some ⟨b, 0, none⟩), x] w fun e w' => e = .returned (.tuple #[.int .i64 0, .bool false]) ∧ Below w.heap.size w w' := by
  obtain ⟨a, cap, rfl, hcap, hel⟩ := hx.open
  have HX := Lib.hid hx
  have HOK := Lib.hid hok
  have HR := Lib.hid hr
  obtain ⟨W0, hW0⟩ : ∃ W0, W0 = w.alloc (.cells #[.int .i64 v.k, .int .i64 v.n, .string v.s, .slice a v.ps.length cap] 24) := ⟨_, rfl⟩
  have hB0 : Below w.heap.size w W0 := by rw [hW0]; exact (Below.refl _ _).alloc (Nat.le_refl _) _
  have hz0 := hB0.size
  have HW0 := Lib.hid hW0
  have HB0 := Lib.hid hB0
  clear hW0 hB0 hx hok hr hel
  go_enter Tryz.func29, Tryz.ntmps29
  go_wp2_with fail
  rw [← HW0.out]
  refine (rright_at HR.out _ B _ ((IsV.of_p HX.out (fun k hk => hk)).below (HB0.out.mono (by omega))) (by omega) HOK.out).mono ?_
  rintro e w1 ⟨rfl, hb1⟩
  have HB1 := Lib.hid hb1
  clear hb1
  go_wp2_with fail
  go_ret2
  exact ⟨rfl, HB0.out.trans (HB1.out.mono (by omega))⟩

def zeroV : V := .mk 0 0 ⟨#[]⟩ []
def rbackV (rs : RS) (k n : Int) : Option V :=
  if k = 1 then some (.mk 1 n ⟨#[]⟩ [])
  else if k = 2 then (if Sy.isTxt rs.1 n then some (.mk 2 0 (Sy.txt rs.1 n) []) else none)
  else if k = 3 then (if 0 ≤ n then rs.2[n.toNat]? else none)
  else none
/-- what the document's Back answers -/
def RBack (B : Nat) (rs : RS) (k n : Int) (w : World) (e : Ending) (w' : World) : Prop :=
  Below w.heap.size w w' ∧ ∃ x, e = .returned (.tuple #[x, .bool (rbackV rs k n).isSome]) ∧ IsV B w' ((rbackV rs k n).getD zeroV) x
theorem flat_v (B : Nat) (w : World) (k n : Int) (s : ByteArray) : IsV B w (.mk k n s []) (.agg #[.int .i64 k, .int .i64 n, .string s, .slice none 0 0]) := IsV.of_p (flat_vp (fun j => j < B) w k n s) (fun _ h => h)

set_option maxRecDepth 100000 in
set_option maxHeartbeats 2000000 in
theorem rsback_flat (B b : Nat) (rs : RS) (rb cb : Option Nat) (k n : Int) (w : World) (hst : RStor B w b rs rb cb) (h3 : k ≠ 3 ∨ n < 0 ∨ (rs.2.length : Int) ≤ n) :
    Calls Tryz.prog 26 #[.pointer (some ⟨b, 0, none⟩), .int .i64 k, .int .i64 n] w (RBack B rs k n w) := by
  obtain ⟨C, tv, cv, hC, hsto⟩ := hst.new ((Below.refl _ _).alloc (Nat.le_refl _) (.cells #[.int .i64 0, .int .i64 0, .string ⟨#[]⟩, .slice none 0 0] 24))
  have hB0 : Hid (Below w.heap.size w (w.alloc (.cells #[.int .i64 0, .int .i64 0, .string ⟨#[]⟩, .slice none 0 0] 24))) := Lib.hid ((Below.refl _ _).alloc (Nat.le_refl _) _)
  by_cases h1 : k = 1
  · subst h1
    have hr := Lib.hid (show rbackV rs 1 n = some (.mk 1 n ⟨#[]⟩ []) from by unfold rbackV; rw [if_pos rfl])
    clear hsto h3
    go_enter Tryz.func26, Tryz.ntmps26
    go_wp2_with fail
    (try simp only [Exit.inBlock, Exit.then])
    refine bodyPost_ret (results_cell2 rfl _ _ w.heap.size 24 #[.int .i64 1, .int .i64 n, .string ⟨#[]⟩, .slice none 0 0] (0, 0) _ rfl ?_ Tryz.underlying24 rfl size24) rfl ?_
    · exact heap_alloc_new w _
    · exact ⟨(Below.refl _ _).alloc (Nat.le_refl _) _, _, by rw [hr.out]; rfl, by rw [hr.out]; exact flat_v _ _ _ _ _⟩
  · have z1 : (k == 1) = false := by simp [h1]
    by_cases h2 : k = 2
    · subst h2
      have HT := Lib.hid hsto.rtab
      cases hi : Sy.isTxt rs.1 n with
      | true =>
        have hr := Lib.hid (show rbackV rs 2 n = some (.mk 2 0 (Sy.txt rs.1 n) []) from by unfold rbackV; rw [if_neg (by omega), if_pos rfl, if_pos hi])
        clear hsto h3 h1 z1
        go_enter Tryz.func26, Tryz.ntmps26
        go_wp2_with fail
        refine (Sy.rtext_any b _ _ _ n _ HT.out).mono ?_
        rintro e w1 ⟨rfl, rfl⟩
        rw [hi]
        go_wp2_with fail
        (try simp only [Exit.inBlock, Exit.then])
        refine bodyPost_ret (results_cell2 rfl _ _ w.heap.size 24 #[.int .i64 2, .int .i64 0, .string (Sy.txt rs.1 n), .slice none 0 0] (0, 0) _ rfl ?_ Tryz.underlying24 rfl size24) rfl ?_
        · exact heap_alloc_new w _
        · exact ⟨(Below.refl _ _).alloc (Nat.le_refl _) _, _, by rw [hr.out]; rfl, by rw [hr.out]; exact flat_v _ _ _ _ _⟩
      | false =>
        have hr := Lib.hid (show rbackV rs 2 n = none from by unfold rbackV; rw [if_neg (by omega), if_pos rfl, if_neg (by simp [hi])])
        clear hsto h3 h1 z1
        go_enter Tryz.func26, Tryz.ntmps26
        go_wp2_with fail
        refine (Sy.rtext_any b _ _ _ n _ HT.out).mono ?_
        rintro e w1 ⟨rfl, rfl⟩
        rw [hi]
        go_wp2_with fail
        (try simp only [Exit.inBlock, Exit.then])
        refine bodyPost_ret (results_cell2 rfl _ _ w.heap.size 24 #[.int .i64 0, .int .i64 0, .string ⟨#[]⟩, .slice none 0 0] (0, 0) _ rfl ?_ Tryz.underlying24 rfl size24) rfl ?_
        · exact heap_alloc_new w _
        · exact ⟨(Below.refl _ _).alloc (Nat.le_refl _) _, _, by rw [hr.out]; rfl, by rw [hr.out]; exact flat_v _ _ _ _ _⟩
    · have z2 : (k == 2) = false := by simp [h2]
      by_cases h4 : k = 3
      · subst h4
        have hlen : C.length = rs.2.length := by rw [← hC]; simp
        have hr := Lib.hid (show rbackV rs 3 n = none from by
          unfold rbackV
          rw [if_neg (by omega), if_neg (by omega), if_pos rfl]
          by_cases hn : 0 ≤ n
          · rw [if_pos hn, List.getElem?_eq_none (by omega)]
          · rw [if_neg hn])
        have c1 := hsto.c1
        have hcl := hsto.clen
        obtain ⟨ac, capc, rfl⟩ := hsto.slice
        by_cases hn : 0 ≤ n
        · have y1 : decide (0 ≤ n) = true := by simp [hn]
          have y2 : decide (n < (C.length : Int)) = false := by simp; omega
          have y3 : ¬ n < (C.length : Int) := by omega
          clear hsto h3 h1 z1 h2 z2 hlen
          go_enter Tryz.func26, Tryz.ntmps26
          go_wp2_with fail
          (try simp only [Exit.inBlock, Exit.then])
          refine bodyPost_ret (results_cell2 rfl _ _ w.heap.size 24 #[.int .i64 0, .int .i64 0, .string ⟨#[]⟩, .slice none 0 0] (0, 0) _ rfl ?_ Tryz.underlying24 rfl size24) rfl ?_
          · exact heap_alloc_new w _
          · exact ⟨(Below.refl _ _).alloc (Nat.le_refl _) _, _, by rw [hr.out]; rfl, by rw [hr.out]; exact flat_v _ _ _ _ _⟩
        · have y1 : decide (0 ≤ n) = false := by simp; omega
          clear hsto h3 h1 z1 h2 z2 c1
          go_enter Tryz.func26, Tryz.ntmps26
          go_wp2_with fail
          (try simp only [Exit.inBlock, Exit.then])
          refine bodyPost_ret (results_cell2 rfl _ _ w.heap.size 24 #[.int .i64 0, .int .i64 0, .string ⟨#[]⟩, .slice none 0 0] (0, 0) _ rfl ?_ Tryz.underlying24 rfl size24) rfl ?_
          · exact heap_alloc_new w _
          · exact ⟨(Below.refl _ _).alloc (Nat.le_refl _) _, _, by rw [hr.out]; rfl, by rw [hr.out]; exact flat_v _ _ _ _ _⟩
      · have z3 : (k == 3) = false := by simp [h4]
        have hr := Lib.hid (show rbackV rs k n = none from by unfold rbackV; rw [if_neg h1, if_neg h2, if_neg h4])
        clear hsto h3 h1 h2 h4
        go_enter Tryz.func26, Tryz.ntmps26
        go_wp2_with fail
        (try simp only [Exit.inBlock, Exit.then])
        refine bodyPost_ret (results_cell2 rfl _ _ w.heap.size 24 #[.int .i64 0, .int .i64 0, .string ⟨#[]⟩, .slice none 0 0] (0, 0) _ rfl ?_ Tryz.underlying24 rfl size24) rfl ?_
        · exact heap_alloc_new w _
        · exact ⟨(Below.refl _ _).alloc (Nat.le_refl _) _, _, by rw [hr.out]; rfl, by rw [hr.out]; exact flat_v _ _ _ _ _⟩

set_option maxRecDepth 100000 in
set_option maxHeartbeats 2000000 in
theorem rsback_con (B b : Nat) (rs : RS) (rb cb : Option Nat) (n : Nat) (w : World) (hst : RStor B w b rs rb cb) (hn : n < rs.2.length) :
    Calls Tryz.prog 26 #[.pointer (some ⟨b, 0, none⟩), .int .i64 3, .int .i64 n] w (RBack B rs 3 n w) := by
  have hrows := hst.rows
  obtain ⟨C, tv, cv, hC, hsto⟩ := hst.new ((Below.refl _ _).alloc (Nat.le_refl _) (.cells #[.int .i64 0, .int .i64 0, .string ⟨#[]⟩, .slice none 0 0] 24))
  have hlen : C.length = rs.2.length := by rw [← hC]; simp
  have hr := Lib.hid (show rbackV rs 3 n = some (nthV rs.2 n) from by
    unfold rbackV
    rw [if_neg (by omega), if_neg (by omega), if_pos rfl, if_pos (by omega), Int.toNat_natCast]
    exact nthV_some hn)
  have c1 := hsto.c1
  have hcl := hsto.clen
  obtain ⟨g, cap, hsv, hels⟩ := hsto.elts.resolve_left (by intro e; rw [e] at hlen; simp at hlen; omega)
  subst hsv
  rw [hC] at hels
  obtain ⟨sl, e0, e1, e2, e3, hsub⟩ := hels.at hn
  obtain ⟨a2, cap2, rfl⟩ := subP_slice hsub
  rw [Nat.zero_add] at e0 e1 e2 e3
  have HSUB := Lib.hid hsub
  have y1 : decide ((0 : Int) ≤ (n : Int)) = true := by simp
  have y2 : decide ((n : Int) < (C.length : Int)) = true := by simp; omega
  have hnC : n < C.length := by omega
  clear hsto hels hsub
  go_enter Tryz.func26, Tryz.ntmps26
  go_wp2_with fail
  (try simp only [Exit.inBlock, Exit.then])
  refine bodyPost_ret (results_cell2 rfl _ _ w.heap.size 24 #[.int .i64 (nthV rs.2 n).k, .int .i64 (nthV rs.2 n).n, .string (nthV rs.2 n).s, .slice a2 (nthV rs.2 n).ps.length cap2] (0, 0) _ rfl ?_ Tryz.underlying24 rfl size24) rfl ?_
  · exact heap_alloc_new w _
  · refine ⟨(Below.refl _ _).alloc (Nat.le_refl _) _, _, by rw [hr.out]; rfl, ?_⟩
    rw [hr.out]
    refine IsV.of_p ((subP_isV HSUB.out).move (Q := fun k => k < B) (fun k hk => ⟨hk, fun j => ?_⟩)) (fun _ h => h)
    have hk' : k < w.heap.size := by have hk : k < B := hk; omega
    exact (World.cell?_of_block (a := ⟨k, j, none⟩) (heap_alloc_old w _ hk')).trans (World.cell?_of_block (a := ⟨k, j, none⟩) (heap_alloc_old w _ hk')).symm
theorem rsback_any (B b : Nat) (rs : RS) (rb cb : Option Nat) (k n : Int) (w : World) (hst : RStor B w b rs rb cb) :
    Calls Tryz.prog 26 #[.pointer (some ⟨b, 0, none⟩), .int .i64 k, .int .i64 n] w (RBack B rs k n w) := by
  by_cases h : k ≠ 3 ∨ n < 0 ∨ (rs.2.length : Int) ≤ n
  · exact rsback_flat B b rs rb cb k n w hst h
  · have h3 : k = 3 := by by_cases h3 : k = 3; exact h3; exact absurd (.inl h3) h
    have hn : 0 ≤ n := by by_cases hn : n < 0; exact absurd (.inr (.inl hn)) h; omega
    have hl : n < (rs.2.length : Int) := by by_cases hn : (rs.2.length : Int) ≤ n; exact absurd (.inr (.inr hn)) h; omega
    obtain ⟨m, rfl⟩ := Int.eq_ofNat_of_zero_le hn
    subst h3
    exact rsback_con B b rs rb cb m w hst (by omega)

set_option maxRecDepth 100000 in
set_option maxHeartbeats 2000000 in
theorem back_none (k n : Int) (m : Nat) (st : St) (rb nb : Option Nat) (w : World) (hst : Stor w m st rb nb) (h1 : k ≠ 1) (h2 : k = 2 → Sy.isTxt st.1 n = false) (h3 : k = 3 → n < 0 ∨ (st.2.length : Int) ≤ n) :
    Calls Tryz.prog 25 #[.pointer (some ⟨m + 3, 0, none⟩), .int .i64 k, .int .i64 n] w fun e w' => e = .returned (.tuple #[.agg #[.int .i64 0, .int .i64 0, .string ⟨#[]⟩, .slice none 0 0], .bool false]) ∧ Below w.heap.size w w' := by
  have h2' := stor_new hst ((Below.refl _ _).alloc (Nat.le_refl _) zeroO)
  unfold zeroO at h2'
  obtain ⟨sv, nv, D, D', n0, n', hsto⟩ := h2'
  obtain ⟨s0, s1, s2⟩ := hsto.c
  have HT := Lib.hid hsto.syms
  have hl := hsto.len
  obtain ⟨cap2, a2, rfl⟩ : ∃ cap a, nv = .slice a st.2.length cap := by
    rcases hsto.row.2 with ⟨h1, h2⟩ | ⟨g, cap, cur, h1, _⟩
    · exact ⟨0, none, by rw [h1, h2]⟩
    · exact ⟨cap, _, h1⟩
  clear hsto
  have z1 : (k == 1) = false := by simp [h1]
  have qT : ∀ (w : World) (r : Option Nat), (binOp .eql 55 (.map r) (.map none)).run Tryz.prog w = .ok (.bool r.isNone) w := fun w r => run_eql_map_nil w _ _ _ r Tryz.underlying55
  by_cases e2 : k = 2
  · subst e2
    have hi := h2 rfl
    clear h1 h2 h3 z1
    go_enter Tryz.func25, Tryz.ntmps25
    go_wp2_with fail
    refine (Sy.text_any _ _ _ _ _ _ n _ HT.out).mono ?_
    rintro e w1 ⟨rfl, rfl⟩
    rw [hi]
    go_wp2_with fail
    (try simp only [Exit.inBlock, Exit.then])
    refine bodyPost_ret (results_cell2 rfl _ _ w.heap.size 24 #[.int .i64 0, .int .i64 0, .string ⟨#[]⟩, .slice none 0 0] (0, 0) _ rfl ?_ Tryz.underlying24 rfl size24) rfl ?_
    · exact heap_alloc_new w _
    · exact ⟨rfl, (Below.refl _ _).alloc (Nat.le_refl _) _⟩
  · have z2 : (k == 2) = false := by simp [e2]
    by_cases e3 : k = 3
    · subst e3
      have h3 := h3 rfl
      clear h1 h2 z1 z2 e2
      by_cases hn : n < 0
      · have y1 : decide (n < 0) = true := by simp [hn]
        clear h3
        go_enter Tryz.func25, Tryz.ntmps25
        go_wp2_with fail
        (try simp only [Exit.inBlock, Exit.then])
        refine bodyPost_ret (results_cell2 rfl _ _ w.heap.size 24 #[.int .i64 0, .int .i64 0, .string ⟨#[]⟩, .slice none 0 0] (0, 0) _ rfl ?_ Tryz.underlying24 rfl size24) rfl ?_
        · exact heap_alloc_new w _
        · exact ⟨rfl, (Below.refl _ _).alloc (Nat.le_refl _) _⟩
      · have y1 : decide (n < 0) = false := by simp; omega
        have y2 : decide ((st.2.length : Int) ≤ n) = true := by simp; omega
        have y3 : (st.2.length : Int) ≤ n := by omega
        clear h3
        go_enter Tryz.func25, Tryz.ntmps25
        go_wp2_with fail
        (try simp only [Exit.inBlock, Exit.then])
        refine bodyPost_ret (results_cell2 rfl _ _ w.heap.size 24 #[.int .i64 0, .int .i64 0, .string ⟨#[]⟩, .slice none 0 0] (0, 0) _ rfl ?_ Tryz.underlying24 rfl size24) rfl ?_
        · exact heap_alloc_new w _
        · exact ⟨rfl, (Below.refl _ _).alloc (Nat.le_refl _) _⟩
    · have z3 : (k == 3) = false := by simp [e3]
      clear h1 h2 h3 e2 e3
      go_enter Tryz.func25, Tryz.ntmps25
      go_wp2_with fail
      (try simp only [Exit.inBlock, Exit.then])
      refine bodyPost_ret (results_cell2 rfl _ _ w.heap.size 24 #[.int .i64 0, .int .i64 0, .string ⟨#[]⟩, .slice none 0 0] (0, 0) _ rfl ?_ Tryz.underlying24 rfl size24) rfl ?_
      · exact heap_alloc_new w _
      · exact ⟨rfl, (Below.refl _ _).alloc (Nat.le_refl _) _⟩

def TwoN (w0 w : World) (b : Nat) (st : St) (rs : RS) : Prop := ∃ rb nb r2 c2, Stor w w0.heap.size st rb nb ∧ RStor w0.heap.size w b rs r2 c2 ∧ (∀ k, RF b r2 c2 k → ¬ SFoot w0.heap.size rb nb k) ∧ Below w0.heap.size w0 w
/-- the program's store at w0's end, the document's in block b, and a box j that is neither's -/
def Two (w0 w : World) (b j : Nat) (cs : Array Value) (st : St) (rs : RS) : Prop := ∃ rb nb r2 c2, Stor w w0.heap.size st rb nb ∧ RStor w0.heap.size w b rs r2 c2 ∧ (∀ k, RF b r2 c2 k → ¬ SFoot w0.heap.size rb nb k) ∧ Below w0.heap.size w0 w ∧ w.heap[j]? = some (.cells cs 24 (0, 0)) ∧ ¬ SFoot w0.heap.size rb nb j ∧ ¬ RF b r2 c2 j
theorem Two.toN {w0 w : World} {b j : Nat} {cs : Array Value} {st : St} {rs : RS} (h : Two w0 w b j cs st rs) : TwoN w0 w b st rs := by
  obtain ⟨rb, nb, r2, c2, h1, h2, h3, h4, _⟩ := h
  exact ⟨rb, nb, r2, c2, h1, h2, h3, h4⟩
theorem Two.box {w0 w : World} {b j : Nat} {cs : Array Value} {st : St} {rs : RS} (h : Two w0 w b j cs st rs) : w.heap[j]? = some (.cells cs 24 (0, 0)) := by
  obtain ⟨rb, nb, r2, c2, h1, h2, h3, h4, h5, _⟩ := h
  exact h5
theorem Two.bel {w0 w : World} {b j : Nat} {cs : Array Value} {st : St} {rs : RS} (h : Two w0 w b j cs st rs) : Below w0.heap.size w0 w := by
  obtain ⟨rb, nb, r2, c2, h1, h2, h3, h4, h5, _⟩ := h
  exact h4
theorem TwoN.bel {w0 w : World} {b : Nat} {st : St} {rs : RS} (h : TwoN w0 w b st rs) : Below w0.heap.size w0 w := by
  obtain ⟨rb, nb, r2, c2, h1, h2, h3, h4⟩ := h
  exact h4
theorem TwoN.below {w0 w w' : World} {b : Nat} {st : St} {rs : RS} (h : TwoN w0 w b st rs) (hb : Below w.heap.size w w') : TwoN w0 w' b st rs := by
  obtain ⟨rb, nb, r2, c2, h1, h2, h3, h4⟩ := h
  exact ⟨rb, nb, r2, c2, stor_new h1 hb, h2.new hb, h3, h4.trans (hb.mono h4.size)⟩
theorem Two.below {w0 w w' : World} {b j : Nat} {cs : Array Value} {st : St} {rs : RS} (h : Two w0 w b j cs st rs) (hb : Below w.heap.size w w') : Two w0 w' b j cs st rs := by
  obtain ⟨rb, nb, r2, c2, h1, h2, h3, h4, h5, h6⟩ := h
  exact ⟨rb, nb, r2, c2, stor_new h1 hb, h2.new hb, h3, h4.trans (hb.mono h4.size), (hb.block j (heap_lt h5)).trans h5, h6⟩
theorem TwoN.boxed {w0 w : World} {b : Nat} {st : St} {rs : RS} (h : TwoN w0 w b st rs) (cs : Array Value) : Two w0 (w.alloc (.cells cs 24)) b w.heap.size cs st rs := by
  obtain ⟨rb, nb, r2, c2, h1, h2, h3, h4⟩ := h
  have hb : Below w.heap.size w (w.alloc (.cells cs 24)) := (Below.refl _ _).alloc (Nat.le_refl _) _
  exact ⟨rb, nb, r2, c2, stor_new h1 hb, h2.new hb, h3, h4.trans (hb.mono h4.size), heap_alloc_new _ _, h1.apart (Nat.le_refl _), h2.apart (Nat.le_refl _)⟩
theorem two_prog {w0 w w' : World} {b j : Nat} {cs : Array Value} {st st' : St} {rs : RS} {rb nb rb' nb' r2 c2 : Option Nat} (hst' : Stor w' w0.heap.size st' rb' nb') (hl1 : Later w.heap.size rb rb') (hl2 : Later w.heap.size nb nb') (hf : Sy.Fr (SFoot w0.heap.size rb nb) w w')
    (h1 : Stor w w0.heap.size st rb nb) (h2 : RStor w0.heap.size w b rs r2 c2) (h3 : ∀ k, RF b r2 c2 k → ¬ SFoot w0.heap.size rb nb k) (h4 : Below w0.heap.size w0 w) (h5 : w.heap[j]? = some (.cells cs 24 (0, 0))) (h6 : ¬ SFoot w0.heap.size rb nb j) (h7 : ¬ RF b r2 c2 j) : Two w0 w' b j cs st' rs := by
  have hrr := h2.rows
  refine ⟨rb', nb', r2, c2, hst', ?_, fun k hk hs => ?_, h4.trans (h1.below hf (Nat.le_refl _)), (hf.block j (heap_lt h5) h6).trans h5, fun hs => ?_, h7⟩
  · obtain ⟨C, tv, cv, hC, hs⟩ := h2
    exact ⟨C, tv, cv, hC, hs.kept hf (fun k hk => h3 k hk) (fun k hk => ((Far.low h1 (Nat.le_refl _)) k hk).2)⟩
  · rcases foot_later hl1 hl2 hs with h | h
    · exact h3 k hk h
    · rcases hk with e | e | e
      · omega
      · have := hrr.1 k e; omega
      · have := hrr.2.1 k e; omega
  · rcases foot_later hl1 hl2 hs with h | h
    · exact h6 h
    · have := heap_lt h5; omega
theorem two_ref {w0 w w' : World} {b j : Nat} {cs : Array Value} {st : St} {rs rs' : RS} {rb nb r2 c2 r2' c2' : Option Nat} (hrs' : RStor w0.heap.size w' b rs' r2' c2') (hl1 : Later w.heap.size r2 r2') (hl2 : Later w.heap.size c2 c2') (hf : Sy.Fr (RF b r2 c2) w w')
    (h1 : Stor w w0.heap.size st rb nb) (h2 : RStor w0.heap.size w b rs r2 c2) (h3 : ∀ k, RF b r2 c2 k → ¬ SFoot w0.heap.size rb nb k) (h4 : Below w0.heap.size w0 w) (h5 : w.heap[j]? = some (.cells cs 24 (0, 0))) (h6 : ¬ SFoot w0.heap.size rb nb j) (h7 : ¬ RF b r2 c2 j) : Two w0 w' b j cs st rs' := by
  have hr := h1.rows
  refine ⟨rb, nb, r2', c2', h1.kept hf (fun k hk hs => h3 k hs hk), hrs', fun k hk hs => ?_, h4.trans (h2.below hf h2.rows.2.2.2), (hf.block j (heap_lt h5) h7).trans h5, h6, fun hs => ?_⟩
  · rcases rfoot_later hl1 hl2 hk with h | h
    · exact h3 k h hs
    · rcases hs with e | e | e | e | e | e
      · omega
      · omega
      · omega
      · omega
      · have := hr.1 k e; omega
      · have := hr.2.1 k e; omega
  · rcases rfoot_later hl1 hl2 hs with h | h
    · exact h7 h
    · have := heap_lt h5; omega
def gV (v : V) (st : St) : Int × Bool := if rightV v then ((getV v st).1, (getV v st).2.1 == 0) else (0, false)
def pV (v : V) (st : St) : Int × Int × St := if rightV v then putV v st else (0, 1, st)
def rpV (v : V) (rs : RS) : RS := if rightV v then (rputV v rs).2.2 else rs
theorem rel_step {v : V} {st : St} {rs : RS} (h : Rel st rs) : Rel (pV v st).2.2 (rpV v rs) := by
  unfold pV rpV
  by_cases hr : rightV v = true
  · rw [if_pos hr, if_pos hr]
    exact (agree_put v 0 st rs (right_may hr) h).2.2
  · rw [if_neg hr, if_neg hr]; exact h
theorem at_w {w0 w : World} {v : V} {x : Value} (hx : IsVP (fun k => k < w0.heap.size) w0 v x) (hb : Below w0.heap.size w0 w) : IsVP (fun k => k < w0.heap.size) w v x := hx.blocks (fun k hk => hb.block k hk)
theorem bget (v : V) (x : Value) (w0 w : World) (b j : Nat) (cs : Array Value) (st : St) (rs : RS) (h : Two w0 w b j cs st rs) (hx : IsVP (fun k => k < w0.heap.size) w0 v x) (hok : v.Ok) :
    Calls Tryz.prog 28 #[.pointer (some ⟨w0.heap.size + 3, 0, none⟩), x] w fun e w' => e = .returned (.tuple #[.int .i64 (gV v st).1, .bool (gV v st).2]) ∧ Two w0 w' b j cs st rs := by
  obtain ⟨rb, nb, r2, c2, h1, h2, h3, h4, h5, h6, h7⟩ := id h
  have hfar := Far.low h1 (Nat.le_refl _)
  unfold gV
  by_cases hr : rightV v = true
  · rw [if_pos hr]
    refine (sget_any v x w0.heap.size _ st rb nb w h1 (at_w hx h4) hfar hok hr).mono ?_
    rintro e w' ⟨he, rb', nb', a1, a2, a3, a4⟩
    exact ⟨he, two_prog a1 a2 a3 a4 h1 h2 h3 h4 h5 h6 h7⟩
  · rw [if_neg hr]
    refine (sget_bad v x w0.heap.size _ st rb nb w h1 (at_w hx h4) hfar hok (by simpa using hr)).mono ?_
    rintro e w' ⟨he, hb⟩
    exact ⟨he, h.below hb⟩
theorem brget (v : V) (x : Value) (w0 w : World) (b j : Nat) (cs : Array Value) (st : St) (rs : RS) (hrel : Rel st rs) (h : Two w0 w b j cs st rs) (hx : IsVP (fun k => k < w0.heap.size) w0 v x) (hok : v.Ok) :
    Calls Tryz.prog 29 #[.pointer (some ⟨b, 0, none⟩), x] w fun e w' => e = .returned (.tuple #[.int .i64 (gV v st).1, .bool (gV v st).2]) ∧ Two w0 w' b j cs st rs := by
  obtain ⟨rb, nb, r2, c2, h1, h2, h3, h4, h5, h6, h7⟩ := id h
  unfold gV
  by_cases hr : rightV v = true
  · rw [if_pos hr]
    refine (rsget_any w0.heap.size b v x rs r2 c2 w h2 (at_w hx h4) hok hr).mono ?_
    rintro e w' ⟨he, hb⟩
    rw [rget_agree (right_may hr) hrel] at he
    exact ⟨he, h.below hb⟩
  · rw [if_neg hr]
    refine (rsget_bad w0.heap.size b v x w (at_w hx h4) h4.size hok (by simpa using hr)).mono ?_
    rintro e w' ⟨he, hb⟩
    exact ⟨he, h.below hb⟩
theorem bput (v : V) (x : Value) (w0 w : World) (b j : Nat) (cs : Array Value) (st : St) (rs : RS) (h : Two w0 w b j cs st rs) (hx : IsVP (fun k => k < w0.heap.size) w0 v x) (hok : v.Ok) :
    Calls Tryz.prog 21 #[.pointer (some ⟨w0.heap.size + 3, 0, none⟩), x] w fun e w' => e = .returned (.tuple #[.int .i64 (pV v st).1, .int .i64 (pV v st).2.1]) ∧ Two w0 w' b j cs (pV v st).2.2 rs := by
  obtain ⟨rb, nb, r2, c2, h1, h2, h3, h4, h5, h6, h7⟩ := id h
  have hfar := Far.low h1 (Nat.le_refl _)
  unfold pV
  by_cases hr : rightV v = true
  · rw [if_pos hr]
    refine (sput_any v x w0.heap.size _ st rb nb w h1 (at_w hx h4) hfar hok hr).mono ?_
    rintro e w' ⟨he, rb', nb', a1, a2, a3, a4⟩
    exact ⟨he, two_prog a1 a2 a3 a4 h1 h2 h3 h4 h5 h6 h7⟩
  · rw [if_neg hr]
    refine (sput_bad v x w0.heap.size _ st rb nb w h1 (at_w hx h4) hfar hok (by simpa using hr)).mono ?_
    rintro e w' ⟨he, hb⟩
    exact ⟨he, h.below hb⟩
theorem brput (v : V) (x : Value) (w0 w : World) (b j : Nat) (cs : Array Value) (st st1 : St) (rs : RS) (hrel : Rel st rs) (h : Two w0 w b j cs st1 rs) (hx : IsVP (fun k => k < w0.heap.size) w0 v x) (hok : v.Ok) :
    Calls Tryz.prog 22 #[.pointer (some ⟨b, 0, none⟩), x] w fun e w' => e = .returned (.tuple #[.int .i64 (pV v st).1, .int .i64 (pV v st).2.1]) ∧ Two w0 w' b j cs st1 (rpV v rs) := by
  obtain ⟨rb, nb, r2, c2, h1, h2, h3, h4, h5, h6, h7⟩ := id h
  unfold pV rpV
  by_cases hr : rightV v = true
  · rw [if_pos hr, if_pos hr]
    obtain ⟨g1, g2, _⟩ := agree_put v 0 st rs (right_may hr) hrel
    refine (rsput_any w0.heap.size b v x rs r2 c2 w h2 (at_w hx h4) hok hr).mono ?_
    rintro e w' ⟨he, r2', c2', a1, a2, a3, a4⟩
    rw [g1, g2] at he
    exact ⟨he, two_ref a1 a2 a3 a4 h1 h2 h3 h4 h5 h6 h7⟩
  · rw [if_neg hr, if_neg hr]
    refine (rsput_bad w0.heap.size b v x w (at_w hx h4) h4.size hok (by simpa using hr)).mono ?_
    rintro e w' ⟨he, hb⟩
    exact ⟨he, h.below hb⟩
/-- the program's Back answers as the document's -/
theorem bback (k n : Int) (w0 w : World) (b : Nat) (st : St) (rs : RS) (hrel : Rel st rs) (h : TwoN w0 w b st rs) :
    Calls Tryz.prog 25 #[.pointer (some ⟨w0.heap.size + 3, 0, none⟩), .int .i64 k, .int .i64 n] w fun e w' => Below w.heap.size w w' ∧ ∃ x, e = .returned (.tuple #[x, .bool (rbackV rs k n).isSome]) ∧ IsV w'.heap.size w' ((rbackV rs k n).getD zeroV) x := by
  obtain ⟨rb, nb, r2, c2, h1, h2, h3, h4⟩ := h
  have hyes : ∀ (f : Nat) (y : V), rbackV rs k n = some y → backV f st k n = some y → Calls Tryz.prog 25 #[.pointer (some ⟨w0.heap.size + 3, 0, none⟩), .int .i64 k, .int .i64 n] w fun e w' => Below w.heap.size w w' ∧ ∃ x, e = .returned (.tuple #[x, .bool (rbackV rs k n).isSome]) ∧ IsV w'.heap.size w' ((rbackV rs k n).getD zeroV) x := fun f y hr hb => by
    refine (back_any f w0.heap.size st rb nb w k n y h1 hb).mono ?_
    rintro e w' ⟨x, he, hx, hbel⟩
    rw [hr]
    exact ⟨hbel, x, he, IsV.of_p hx (fun j hj => hj.2)⟩
  cases hr : rbackV rs k n with
  | some y =>
    rw [← hr]
    unfold rbackV at hr
    by_cases e1 : k = 1
    · subst e1
      rw [if_pos rfl] at hr
      exact hyes 1 y (by unfold rbackV; rw [if_pos rfl]; exact hr) (by rw [back_num]; exact hr)
    · by_cases e2 : k = 2
      · subst e2
        have hr0 := hr
        rw [if_neg (by omega), if_pos rfl] at hr
        by_cases hi : Sy.isTxt rs.1 n = true
        · rw [if_pos hi] at hr
          have hn : 0 ≤ n ∧ n < rs.1.length := by unfold Sy.isTxt at hi; simpa using hi
          obtain ⟨j, rfl⟩ := Int.eq_ofNat_of_zero_le hn.1
          refine hyes 1 y (by unfold rbackV; exact hr0) ?_
          rw [back_sym, ← hrel.1, List.getElem?_eq_getElem (by omega : j < rs.1.length)]
          have ht : Sy.txt rs.1 (j : Int) = rs.1[j]'(by omega) := by
            unfold Sy.txt
            rw [if_pos ⟨hn.1, hn.2⟩, Int.toNat_natCast]
            unfold Sy.nth
            rw [List.getD_eq_getElem?_getD, List.getElem?_eq_getElem (by omega : j < rs.1.length)]
            rfl
          rw [ht] at hr
          exact hr
        · rw [if_neg hi] at hr; cases hr
      · have hr0 := hr
        rw [if_neg e1, if_neg e2] at hr
        by_cases e3 : k = 3
        · subst e3
          rw [if_pos rfl] at hr
          by_cases hn : 0 ≤ n
          · rw [if_pos hn] at hr
            obtain ⟨hb, _⟩ := hrel.2.2.1 _ _ hr
            rw [Int.toNat_of_nonneg hn] at hb
            exact hyes y.sz y (by unfold rbackV; exact hr0) hb
          · rw [if_neg hn] at hr; cases hr
        · rw [if_neg e3] at hr; cases hr
  | none =>
    unfold rbackV at hr
    have e1 : k ≠ 1 := by rintro rfl; rw [if_pos rfl] at hr; cases hr
    refine (back_none k n w0.heap.size st rb nb w h1 e1 (fun e2 => ?_) (fun e3 => ?_)).mono ?_
    · subst e2
      rw [if_neg (by omega), if_pos rfl] at hr
      rw [← hrel.1]
      by_cases hi : Sy.isTxt rs.1 n = true
      · rw [if_pos hi] at hr; cases hr
      · simpa using hi
    · subst e3
      rw [if_neg (by omega), if_neg (by omega), if_pos rfl] at hr
      by_cases hn : 0 ≤ n
      · rw [if_pos hn] at hr
        have := List.getElem?_eq_none_iff.1 hr
        have := hrel.2.1
        exact .inr (by omega)
      · exact .inl (by omega)
    · rintro e w' ⟨he, hb⟩
      exact ⟨hb, _, he, flat_v _ _ _ _ _⟩
/-- the texts are no longer than a text may be -/
def TxtOk (L : List ByteArray) : Prop := ∀ t ∈ L, t.size ≤ 140737488351232
theorem pL_txt {L : List ByteArray} {s : ByteArray} (h : TxtOk L) (hs : s.size ≤ 140737488351232) : TxtOk (Sy.pL L s) := by
  unfold Sy.pL
  split
  · exact h
  · split
    · exact h
    · intro t ht
      rcases List.mem_append.1 ht with ht | ht
      · exact h t ht
      · simp at ht; rw [ht]; exact hs
theorem ok_string {k n : Int} {s : ByteArray} {ps : List V} (h : (V.mk k n s ps).Ok) : s.size ≤ 140737488351232 ∧ OkL ps := by
  unfold V.Ok at h
  exact ⟨h.2.2.1, h.2.2.2.2⟩
mutual
theorem putV_txt : ∀ (v : V) (st : St), v.Ok → TxtOk st.1 → TxtOk (putV v st).2.2.1
  | .mk k n s ps, st, hok, h => by
    obtain ⟨hs, hps⟩ := ok_string hok
    have h1 := putVs_txt ps st hps h
    unfold putV
    by_cases e1 : k = 1
    · rw [if_pos e1]; exact h
    · rw [if_neg e1]
      by_cases e2 : k = 2
      · rw [if_pos e2]; exact pL_txt h hs
      · rw [if_neg e2]
        split
        · exact h1
        · unfold nput
          split
          · exact h1
          · split
            · exact h1
            · exact h1
theorem putVs_txt : ∀ (l : List V) (st : St), OkL l → TxtOk st.1 → TxtOk (putVs l st).2.2.1
  | [], st, _, h => by unfold putVs; exact h
  | x :: r, st, hok, h => by
    unfold OkL at hok
    have h1 := putV_txt x st hok.1 h
    have h2 := putVs_txt r (putV x st).2.2 hok.2 h1
    unfold putVs
    split
    · exact h1
    · exact h2
end
theorem pV_txt {v : V} {st : St} (hok : v.Ok) (h : TxtOk st.1) : TxtOk (pV v st).2.2.1 := by
  unfold pV
  split
  · exact putV_txt v st hok h
  · exact h
theorem zero_ok : zeroV.Ok := by unfold zeroV V.Ok; exact ⟨by decide, by decide, Nat.zero_le _, Nat.zero_le _, by unfold OkL; trivial⟩
theorem back_ok {w0 w : World} {b : Nat} {st : St} {rs : RS} {k n : Int} (h : TwoN w0 w b st rs) (hrel : Rel st rs) (ht : TxtOk st.1) (hn : (Lit.int .i64 n).wf = true) : ((rbackV rs k n).getD zeroV).Ok := by
  obtain ⟨rb, nb, r2, c2, _, h2, _, _⟩ := h
  obtain ⟨C, tv, cv, hC, hs⟩ := h2
  unfold rbackV
  by_cases e1 : k = 1
  · rw [if_pos e1]
    show (V.mk 1 n ⟨#[]⟩ []).Ok
    unfold V.Ok
    exact ⟨by decide, hn, Nat.zero_le _, Nat.zero_le _, by unfold OkL; trivial⟩
  · rw [if_neg e1]
    by_cases e2 : k = 2
    · rw [if_pos e2]
      by_cases hi : Sy.isTxt rs.1 n = true
      · rw [if_pos hi]
        show (V.mk 2 0 (Sy.txt rs.1 n) []).Ok
        unfold V.Ok
        refine ⟨by decide, by decide, ?_, by simp, by unfold OkL; trivial⟩
        have hn : 0 ≤ n ∧ n < rs.1.length := by unfold Sy.isTxt at hi; simpa using hi
        refine ht _ ?_
        rw [← hrel.1]
        unfold Sy.txt
        rw [if_pos hn]
        unfold Sy.nth
        rw [List.getD_eq_getElem?_getD, List.getElem?_eq_getElem (by omega : n.toNat < rs.1.length)]
        exact List.getElem_mem _
      · rw [if_neg hi]; exact zero_ok
    · rw [if_neg e2]
      by_cases e3 : k = 3
      · rw [if_pos e3]
        by_cases hn : 0 ≤ n
        · rw [if_pos hn]
          cases hd : rs.2[n.toNat]? with
          | none => exact zero_ok
          | some y =>
            have hm := List.mem_of_getElem? hd
            rw [← hC] at hm
            obtain ⟨p, hp, rfl⟩ := List.mem_map.1 hm
            exact hs.ok p hp
        · rw [if_neg hn]; exact zero_ok
      · rw [if_neg e3]; exact zero_ok

theorem two_start {w w1 : World} (hst : Stor w1 w.heap.size ([], []) none none) (hb : Below w.heap.size w w1) (hz : w1.heap.size = w.heap.size + 4) :
    TwoN w (w1.alloc (.cells #[.slice none 0 0, .slice none 0 0] 37)) (w.heap.size + 4) ([], []) ([], []) := by
  refine ⟨none, none, none, none, stor_new hst ((Below.refl _ _).alloc (Nat.le_refl _) _), ⟨[], .slice none 0 0, .slice none 0 0, rfl, ?_⟩, fun k hk hs => ?_, hb.trans ((Below.refl _ _).alloc (by omega) _)⟩
  · refine ⟨by rw [← hz]; exact heap_alloc_new _ _, World.ownsRow_nil _ _ _ _, rfl, by simp, World.ownsRow_nil _ _ _ _, rfl, by simp, by simp, by omega, by simp⟩
  · rcases hk with e | e | e
    · rcases hs with e1 | e1 | e1 | e1 | e1 | e1
      · omega
      · omega
      · omega
      · omega
      · cases e1
      · cases e1
    · cases e
    · cases e

set_option maxRecDepth 100000 in
set_option maxHeartbeats 8000000 in
theorem stores_walk (l : List V) (kd nn : Int) (x : Value) (w : World) (hx : IsVs w.heap.size w l x) (_hk : (Lit.int .i64 kd).wf = true) (hn : (Lit.int .i64 nn).wf = true) (hok : l.length ≤ 140737488351232 ∧ OkL l) (htab : ∀ w', Below w.heap.size w w' → Tab w') :
    Calls Tryz.prog 9 #[x, .int .i64 kd, .int .i64 nn] w fun e w' => e = .returned (.bool true) ∧ Below w.heap.size w w' := by
  obtain ⟨a, cap, rfl, hcap, hel⟩ := hx
  obtain ⟨hlen, hok⟩ := hok
  have HEL := Lib.hid hel
  have HOK := Lib.hid hok
  have HTAB := Lib.hid htab
  have HNN := Lib.hid hn
  clear hel hok htab hn
  obtain ⟨N, hN⟩ : ∃ N : Nat, N = min l.length 12 := ⟨_, rfl⟩
  have hN2 : N ≤ 12 := by omega
  have hNl : N ≤ l.length := by omega
  have hmin : min (l.length : Int) 12 = N := by omega
  clear hN
  go_enter Tryz.func9, Tryz.ntmps9
  go_wp2_with fail
  refine (snew_any w).mono ?_
  rintro e w1 ⟨rfl, hst1, hb1, hz1⟩
  obtain ⟨b, hb⟩ : ∃ b, w1.heap.size = b := ⟨_, rfl⟩
  have HBE := Lib.hid (show b = w.heap.size + 4 from by omega)
  have HT1 := Lib.hid (two_start (w := w) (w1 := w1) ⟨_, _, _, _, _, _, hst1⟩ hb1 hz1)
  rw [← HBE.out] at HT1
  clear hst1 hb1 hz1
  go_wp2_with fail
  obtain ⟨W2, hW2⟩ : ∃ W2, W2 = w1.alloc (.cells #[.slice none 0 0, .slice none 0 0] 37) := ⟨_, rfl⟩
  rw [← hW2] at HT1 ⊢
  clear hW2
  refine (alive_any _ (fun w' h => HTAB.out _ (HT1.out.bel.trans (h.mono HT1.out.bel.size)))).mono ?_
  rintro e w2 ⟨rfl, hb2⟩
  have HT2 := Lib.hid (HT1.out.below hb2)
  clear hb2
  go_wp2_with fail
  go_loopw [37] (fun i wr => ∃ (k : Nat) (st : St) (rs : RS), k ≤ N ∧ i = .int .i64 k ∧ TwoN w wr b st rs ∧ Rel st rs ∧ TxtOk st.1) (fun i _ => N - (intOf i).toNat)
  case atStart => exact ⟨0, ([], []), ([], []), Nat.zero_le _, rfl, HT2.out, Rel.nil, fun t ht => by simp at ht⟩
  case round =>
    obtain ⟨k, st, rs, hk, rfl, htw, hrel, htx⟩ := hrel
    have HTW := Lib.hid htw
    have HREL := Lib.hid hrel
    have HTX := Lib.hid htx
    clear htw hrel htx
    by_cases hlt : k < N
    · have hlt' : k < l.length := by omega
      obtain ⟨be, off, rfl, hbB, hels⟩ := HEL.out.resolve_left (by intro e; rw [e] at hlt'; simp at hlt')
      have hcell : ∀ (j : Nat) (u : Value), w.cell? ⟨be, j, none⟩ = some u → wr.cell? ⟨be, j, none⟩ = some u := fun j u h => (World.cell?_of_block (a := ⟨be, j, none⟩) (HTW.out.bel.block be hbB)).trans h
      obtain ⟨sl, e0, e1, e2, e3, hsub⟩ := hels.at hlt'
      obtain ⟨a2, cap2, rfl⟩ := subP_slice hsub
      have HX := Lib.hid (subP_isV hsub)
      have HVO := Lib.hid (okL_nth HOK.out hlt')
      have e0 := hcell _ _ e0
      have e1 := hcell _ _ e1
      have e2 := hcell _ _ e2
      have e3 := hcell _ _ e3
      clear hsub hels hcell
      obtain ⟨v, hv⟩ : ∃ v, nthV l k = v := ⟨_, rfl⟩
      rw [hv] at e0 e1 e2 e3 HX HVO
      clear hv
      have hvlen := ok_len HVO.out
      obtain ⟨W4, hW4⟩ : ∃ W4, W4 = wr.alloc (.cells #[.int .i64 v.k, .int .i64 v.n, .string v.s, .slice a2 v.ps.length cap2] 24) := ⟨_, rfl⟩
      have HT4 := Lib.hid (HTW.out.boxed #[.int .i64 v.k, .int .i64 v.n, .string v.s, .slice a2 v.ps.length cap2])
      rw [← hW4] at HT4
      have HW4 := Lib.hid hW4
      clear hW4
      obtain ⟨gx, hgx⟩ : ∃ g, (gV v st).1 = g := ⟨_, rfl⟩
      obtain ⟨go, hgo⟩ : ∃ g, (gV v st).2 = g := ⟨_, rfl⟩
      obtain ⟨px, hpx⟩ : ∃ g, (pV v st).1 = g := ⟨_, rfl⟩
      obtain ⟨pe, hpe⟩ : ∃ g, (pV v st).2.1 = g := ⟨_, rfl⟩
      have HC1 := Lib.hid (bget v _ w W4 b wr.heap.size _ st rs HT4.out HX.out HVO.out)
      rw [hgx, hgo] at HC1
      go_wp2_with fail
      rw [← HW4.out]
      refine HC1.out.mono ?_
      rintro e w5 ⟨rfl, ht5⟩
      have HT5 := Lib.hid ht5
      obtain ⟨c0, c1, c2, c3⟩ := block4 ht5.box
      have HC2 := Lib.hid (brget v _ w w5 b wr.heap.size _ st rs HREL.out ht5 HX.out HVO.out)
      rw [hgx, hgo] at HC2
      clear ht5 HC1 e0 e1 e2 e3
      go_wp2_with fail
      refine HC2.out.mono ?_
      rintro e w6 ⟨rfl, ht6⟩
      have HT6 := Lib.hid ht6
      clear c0 c1 c2 c3
      obtain ⟨c0, c1, c2, c3⟩ := block4 ht6.box
      have HC3 := Lib.hid (bput v _ w w6 b wr.heap.size _ st rs ht6 HX.out HVO.out)
      rw [hpx, hpe] at HC3
      clear ht6 HC2
      go_wp2_with fail
      refine HC3.out.mono ?_
      rintro e w7 ⟨rfl, ht7⟩
      have HT7 := Lib.hid ht7
      clear c0 c1 c2 c3
      obtain ⟨c0, c1, c2, c3⟩ := block4 ht7.box
      have HC4 := Lib.hid (brput v _ w w7 b wr.heap.size _ st (pV v st).2.2 rs HREL.out ht7 HX.out HVO.out)
      rw [hpx, hpe] at HC4
      clear ht7 HC3
      go_wp2_with fail
      refine HC4.out.mono ?_
      rintro e w8 ⟨rfl, ht8⟩
      have HT8 := Lib.hid ht8
      have HREL8 := Lib.hid (rel_step (v := v) HREL.out)
      have HTX8 := Lib.hid (pV_txt HVO.out HTX.out)
      obtain ⟨rb, nb, r2, c2', hsto, hrst, _⟩ := ht8
      obtain ⟨C, tv, cv, hC, hrs⟩ := hrst
      have hlen8 : (C.length : Int) = (pV v st).2.2.2.length := by
        have := HREL8.out.2.1
        rw [← hC] at this
        simp at this
        omega
      obtain ⟨ac, capc, rfl⟩ := hrs.slice
      have HSTO := Lib.hid hsto
      have HRS := Lib.hid hrs
      clear c0 c1 c2 c3 HC4 hC hsto hrs hgx hgo hpx hpe
      go_wp2_with fail
      have HK := Lib.hid (show ∀ w', Below w8.heap.size w8 w' → Below w8.heap.size w8 w' ∧ w'.cell? ⟨b, 1, none⟩ = some (.slice ac C.length capc) from fun w' h => ⟨h, below_cell h HRS.out.c1⟩)
      go_region_held3 (fun w' => Below w8.heap.size w8 w' ∧ w'.cell? ⟨b, 1, none⟩ = some (.slice ac C.length capc)) (first | exact HK.out _ (Below.refl _ _).drew | exact HK.out _ (by assumption) | assumption) (first | (go_at_call 24; obtain ⟨hSB, hSr⟩ := ‹Below w8.heap.size w8 _ ∧ _›; refine (slen_any w.heap.size _ rb nb _ (stor_new HSTO.out hSB)).mono ?_; rintro e w9 ⟨rfl, rfl⟩))
      all_goals
        have hN8 := ‹Below w8.heap.size w8 _ ∧ _›.1
        go_wp2_with fail
        go_roundw
        case rel => exact ⟨k + 1, (pV v st).2.2, rpV v rs, by omega, by go_num, HT8.out.toN.below hN8, HREL8.out, HTX8.out⟩
        case measure => simp [intOf]; omega
    · have HC := Lib.hid (bback kd nn w wr b st rs HREL.out HTW.out)
      have HYO := Lib.hid (back_ok (k := kd) (n := nn) HTW.out HREL.out HTX.out HNN.out)
      obtain ⟨y, hy⟩ : ∃ y, (rbackV rs kd nn).getD zeroV = y := ⟨_, rfl⟩
      obtain ⟨ok, hokk⟩ : ∃ ok, (rbackV rs kd nn).isSome = ok := ⟨_, rfl⟩
      rw [hy] at HYO
      rw [hy, hokk] at HC
      have HY := Lib.hid hy
      have HOKK := Lib.hid hokk
      clear hy hokk
      go_wp2_with fail
      refine HC.out.mono ?_
      rintro e w5 ⟨hb5, z, rfl, hz⟩
      obtain ⟨a5, cap5, rfl, _, _⟩ := hz.open
      have hylen := ok_len HYO.out
      have HT5 := Lib.hid (HTW.out.below hb5)
      have HZ5 := Lib.hid hz
      clear hb5 hz HC
      go_wp2_with fail
      obtain ⟨W6, hW6⟩ : ∃ W6, W6 = w5.alloc (.cells #[.int .i64 y.k, .int .i64 y.n, .string y.s, .slice a5 y.ps.length cap5] 24) := ⟨_, rfl⟩
      rw [← hW6]
      have hB6 : Below w5.heap.size w5 W6 := by rw [hW6]; exact (Below.refl _ _).alloc (Nat.le_refl _) _
      have hb6 : W6.heap[w5.heap.size]? = some (.cells #[.int .i64 y.k, .int .i64 y.n, .string y.s, .slice a5 y.ps.length cap5] 24 (0, 0)) := by rw [hW6]; exact heap_alloc_new _ _
      have HT6 := Lib.hid (HT5.out.below hB6)
      have HZ6 := Lib.hid (HZ5.out.below hB6)
      have Hb6 := Lib.hid hb6
      have hz6 := hB6.size
      clear hB6 hb6 hW6
      obtain ⟨rb, nb, r2, c2', hsto, hrst, _⟩ := HT6.out
      have HC2 := Lib.hid (rsback_any w.heap.size b rs r2 c2' kd nn W6 hrst)
      unfold RBack at HC2
      rw [HY.out, HOKK.out] at HC2
      clear hsto hrst
      refine HC2.out.mono ?_
      rintro e w7 ⟨hb7, z, rfl, hz⟩
      obtain ⟨a7, cap7, rfl, _, _⟩ := hz.open
      have HT7 := Lib.hid (HT6.out.below hb7)
      have HZ7 := Lib.hid hz
      have HZY7 := Lib.hid (HZ6.out.below (hb7.mono hz6))
      have hz7 := hb7.size
      have Hb7 := Lib.hid ((hb7.block _ (heap_lt Hb6.out)).trans Hb6.out)
      clear hb7 hz HC2
      obtain ⟨W8, hW8⟩ : ∃ W8, W8 = w7.alloc (.cells #[.int .i64 y.k, .int .i64 y.n, .string y.s, .slice a7 y.ps.length cap7] 24) := ⟨_, rfl⟩
      have hB8 : Below w7.heap.size w7 W8 := by rw [hW8]; exact (Below.refl _ _).alloc (Nat.le_refl _) _
      have hb8 : W8.heap[w7.heap.size]? = some (.cells #[.int .i64 y.k, .int .i64 y.n, .string y.s, .slice a7 y.ps.length cap7] 24 (0, 0)) := by rw [hW8]; exact heap_alloc_new _ _
      have HT8 := Lib.hid (HT7.out.below hB8)
      have hz8 := hB8.size
      have HZ8 := Lib.hid ((HZ7.out.below (hB8.mono HT7.out.bel.size)).mono (show w.heap.size ≤ W8.heap.size from HT8.out.bel.size))
      have HZY8 := Lib.hid ((HZY7.out.below (hB8.mono (by omega))).mono (show w5.heap.size ≤ W8.heap.size by omega))
      obtain ⟨q0, q1, q2, q3⟩ := block4 hb8
      obtain ⟨p0, p1, p2, p3⟩ := block4 ((hB8.block _ (heap_lt Hb7.out)).trans Hb7.out)
      have HW8 := Lib.hid hW8
      have heq : (ok == ok) = true := by simp
      clear hB8 hb8 hW8
      go_upto_region 17 with fail
      rw [← HW8.out]
      go_wp2_with fail
      refine (raw_any (y.sz + 1) y y _ _ W8.heap.size W8 (Nat.lt_succ_self _) HZY8.out HZ8.out (Nat.le_refl _) HYO.out HYO.out).mono ?_
      rintro e w9 ⟨rfl, hb9⟩
      rw [rawV_refl]
      have HB9 := Lib.hid (HT8.out.below hb9).bel
      clear hb9 p0 p1 p2 p3 q0 q1 q2 q3
      go_wp2_with fail
      go_ret
      exact ⟨rfl, HB9.out⟩

def grp (cur : Array Value) (i : Nat) (c0 c1 c2 c3 : Value) : Prop := cur[i * 4]? = some c0 ∧ cur[i * 4 + 1]? = some c1 ∧ cur[i * 4 + 2]? = some c2 ∧ cur[i * 4 + 3]? = some c3
/-- a value, n deep at most, all of whose rows lie in P's blocks, from their heads on, and may be written -/
def Wf : Nat → (Nat → Prop) → World → Value → Prop
  | 0, _, _, _ => False
  | n + 1, P, w, x => ∃ (k m : Int) (s : ByteArray) (a : Option Addr) (len cap : Nat), x = .agg #[.int .i64 k, .int .i64 m, .string s, .slice a len cap] ∧ len ≤ 140737488351232 ∧
      (len = 0 ∨ ∃ (g : Nat) (cur : Array Value), a = some ⟨g, 0, none⟩ ∧ P g ∧ w.heap[g]? = some (.cells cur 24 (0, 0)) ∧ ∀ i, i < len → ∃ c0 c1 c2 c3, grp cur i c0 c1 c2 c3 ∧ Wf n P w (.agg #[c0, c1, c2, c3]))
theorem wf_flat (n : Nat) (P : Nat → Prop) (w : World) (k m : Int) (s : ByteArray) : Wf (n + 1) P w (.agg #[.int .i64 k, .int .i64 m, .string s, .slice none 0 0]) := by
  unfold Wf
  exact ⟨k, m, s, none, 0, 0, rfl, Nat.zero_le _, .inl rfl⟩
theorem Wf.move : ∀ {n : Nat} {P Q : Nat → Prop} {w w' : World} {x : Value}, Wf n P w x → (∀ k, P k → Q k ∧ w'.heap[k]? = w.heap[k]?) → Wf n Q w' x
  | 0, _, _, _, _, _, h, _ => by unfold Wf at h; exact h.elim
  | n + 1, P, Q, w, w', x, h, hb => by
    unfold Wf at h ⊢
    obtain ⟨k, m, s, a, len, cap, h1, h2, h3⟩ := h
    refine ⟨k, m, s, a, len, cap, h1, h2, ?_⟩
    rcases h3 with h3 | ⟨g, cur, h4, h5, h6, h7⟩
    · exact .inl h3
    · refine .inr ⟨g, cur, h4, (hb g h5).1, (hb g h5).2.trans h6, fun i hi => ?_⟩
      obtain ⟨c0, c1, c2, c3, h8, h9⟩ := h7 i hi
      exact ⟨c0, c1, c2, c3, h8, h9.move hb⟩
theorem Wf.more : ∀ {n m : Nat} {P : Nat → Prop} {w : World} {x : Value}, Wf n P w x → n ≤ m → Wf m P w x
  | 0, _, _, _, _, h, _ => by unfold Wf at h; exact h.elim
  | n + 1, m, P, w, x, h, hm => by
    obtain ⟨m, rfl⟩ : ∃ e, m = e + 1 := ⟨m - 1, by omega⟩
    unfold Wf at h ⊢
    obtain ⟨k, e, s, a, len, cap, h1, h2, h3⟩ := h
    refine ⟨k, e, s, a, len, cap, h1, h2, ?_⟩
    rcases h3 with h3 | ⟨g, cur, h4, h5, h6, h7⟩
    · exact .inl h3
    · refine .inr ⟨g, cur, h4, h5, h6, fun i hi => ?_⟩
      obtain ⟨c0, c1, c2, c3, h8, h9⟩ := h7 i hi
      exact ⟨c0, c1, c2, c3, h8, h9.more (by omega)⟩
/-- w' is w, but that in P's rows some elements were written over -/
structure Spoilt (P : Nat → Prop) (w w' : World) : Prop where
  os : w'.os = w.os
  tape : w'.tape = w.tape
  output : w'.output = w.output
  size : w.heap.size ≤ w'.heap.size
  block : ∀ k, k < w.heap.size → ¬ P k → w'.heap[k]? = w.heap[k]?
  own : ∀ (k : Nat) (cur : Array Value), P k → w.heap[k]? = some (.cells cur 24 (0, 0)) → ∃ cur', w'.heap[k]? = some (.cells cur' 24 (0, 0)) ∧ ∀ i c0 c1 c2 c3, grp cur i c0 c1 c2 c3 → grp cur' i c0 c1 c2 c3 ∨ grp cur' i (.int .i64 77) (.int .i64 0) (.string ⟨#[]⟩) (.slice none 0 0)
theorem Spoilt.of_below {P : Nat → Prop} {w w' : World} (h : Below w.heap.size w w') : Spoilt P w w' :=
  ⟨h.os, h.tape, h.output, h.size, fun k hk _ => h.block k hk, fun k cur _ hc => ⟨cur, (h.block k (heap_lt hc)).trans hc, fun _ _ _ _ _ h => .inl h⟩⟩
theorem Spoilt.trans {P : Nat → Prop} {a b c : World} (h : Spoilt P a b) (k : Spoilt P b c) : Spoilt P a c := by
  refine ⟨k.os.trans h.os, k.tape.trans h.tape, k.output.trans h.output, Nat.le_trans h.size k.size, fun i hi hp => (k.block i (Nat.lt_of_lt_of_le hi h.size) hp).trans (h.block i hi hp), fun i cur hp hc => ?_⟩
  obtain ⟨c1, h1, h2⟩ := h.own i cur hp hc
  obtain ⟨c2, h3, h4⟩ := k.own i c1 hp h1
  refine ⟨c2, h3, fun j x0 x1 x2 x3 hg => ?_⟩
  rcases h2 j x0 x1 x2 x3 hg with e | e
  · exact h4 j x0 x1 x2 x3 e
  · rcases h4 j _ _ _ _ e with e2 | e2
    · exact .inr e2
    · exact .inr e2
theorem Spoilt.fr {P : Nat → Prop} {w w' : World} (h : Spoilt P w w') : Sy.Fr P w w' := ⟨h.os, h.tape, h.output, h.size, h.block⟩
theorem Wf.spoilt : ∀ {n : Nat} {P : Nat → Prop} {w w' : World} {x : Value}, Wf n P w x → Spoilt P w w' → Wf n P w' x
  | 0, _, _, _, _, h, _ => by unfold Wf at h; exact h.elim
  | n + 1, P, w, w', x, h, hb => by
    unfold Wf at h ⊢
    obtain ⟨k, m, s, a, len, cap, h1, h2, h3⟩ := h
    refine ⟨k, m, s, a, len, cap, h1, h2, ?_⟩
    rcases h3 with h3 | ⟨g, cur, h4, h5, h6, h7⟩
    · exact .inl h3
    · obtain ⟨cur', h8, h9⟩ := hb.own g cur h5 h6
      refine .inr ⟨g, cur', h4, h5, h8, fun i hi => ?_⟩
      obtain ⟨c0, c1, c2, c3, h10, h11⟩ := h7 i hi
      rcases h9 i c0 c1 c2 c3 h10 with e | e
      · exact ⟨c0, c1, c2, c3, e, h11.spoilt hb⟩
      · refine ⟨_, _, _, _, e, ?_⟩
        cases n with
        | zero => unfold Wf at h11; exact h11.elim
        | succ n => exact wf_flat n P w' 77 0 ⟨#[]⟩
theorem grp_set {cur : Array Value} {i j : Nat} {c0 c1 c2 c3 y0 y1 y2 y3 : Value} (x0 x1 x2 x3 : Value) (hi : grp cur i y0 y1 y2 y3) (h : grp cur j c0 c1 c2 c3) : grp (set4 cur (i * 4) x0 x1 x2 x3) j c0 c1 c2 c3 ∨ grp (set4 cur (i * 4) x0 x1 x2 x3) j x0 x1 x2 x3 := by
  have hlt : i * 4 + 3 < cur.size := (Array.getElem?_eq_some_iff.1 hi.2.2.2).1
  obtain ⟨g0, g1, g2, g3⟩ := h
  by_cases e : j = i
  · subst e
    refine .inr ⟨?_, ?_, ?_, ?_⟩ <;> unfold set4 <;> simp only [Array.set!_eq_setIfInBounds, Array.getElem?_setIfInBounds, Array.size_setIfInBounds]
    · rw [if_neg (by omega), if_neg (by omega), if_neg (by omega), if_pos trivial, if_pos (by omega)]
    · rw [if_neg (by omega), if_neg (by omega), if_pos trivial, if_pos (by omega)]
    · rw [if_neg (by omega), if_pos trivial, if_pos (by omega)]
    · rw [if_pos trivial, if_pos (by omega)]
  · refine .inl ⟨?_, ?_, ?_, ?_⟩ <;> unfold set4 <;> simp only [Array.set!_eq_setIfInBounds, Array.getElem?_setIfInBounds, Array.size_setIfInBounds]
    · rw [if_neg (by omega), if_neg (by omega), if_neg (by omega), if_neg (by omega)]; exact g0
    · rw [if_neg (by omega), if_neg (by omega), if_neg (by omega), if_neg (by omega)]; exact g1
    · rw [if_neg (by omega), if_neg (by omega), if_neg (by omega), if_neg (by omega)]; exact g2
    · rw [if_neg (by omega), if_neg (by omega), if_neg (by omega), if_neg (by omega)]; exact g3
theorem spoilt_set {P : Nat → Prop} {w : World} {g i : Nat} {cur : Array Value} {y0 y1 y2 y3 : Value} (hP : P g) (hg : w.heap[g]? = some (.cells cur 24 (0, 0))) (hi : grp cur i y0 y1 y2 y3) :
    Spoilt P w ((((w.setCell ⟨g, i * 4, none⟩ (.int .i64 77)).setCell ⟨g, i * 4 + 1, none⟩ (.int .i64 0)).setCell ⟨g, i * 4 + 2, none⟩ (.string ⟨#[]⟩)).setCell ⟨g, i * 4 + 3, none⟩ (.slice none 0 0)) := by
  refine ⟨rfl, rfl, rfl, by simp [World.setCell], fun k _ hk => ?_, fun k c hk hc => ?_⟩
  · have hne : k ≠ g := fun e => hk (e ▸ hP)
    rw [Below.heap_setCell _ _ _ _ hne, Below.heap_setCell _ _ _ _ hne, Below.heap_setCell _ _ _ _ hne, Below.heap_setCell _ _ _ _ hne]
  · by_cases e : k = g
    · subst e
      rw [hg] at hc
      simp at hc
      subst hc
      refine ⟨set4 cur (i * 4) (.int .i64 77) (.int .i64 0) (.string ⟨#[]⟩) (.slice none 0 0), ?_, fun j c0 c1 c2 c3 h => grp_set _ _ _ _ hi h⟩
      rw [set_block (set_block (set_block (set_block hg)))]
      rfl
    · refine ⟨c, ?_, fun _ _ _ _ _ h => .inl h⟩
      rw [Below.heap_setCell _ _ _ _ e, Below.heap_setCell _ _ _ _ e, Below.heap_setCell _ _ _ _ e, Below.heap_setCell _ _ _ _ e]
      exact hc

set_option maxRecDepth 100000 in
set_option maxHeartbeats 4000000 in
theorem spoil_any : ∀ (n : Nat) (P : Nat → Prop) (x : Value) (w : World), Wf n P w x → (∀ k, P k → k < w.heap.size) → Calls Tryz.prog 23 #[x] w fun e w' => e = .returned (.tuple #[]) ∧ Spoilt P w w' := by
  intro n
  induction n with
  | zero => intro P x w h; unfold Wf at h; exact h.elim
  | succ n ih =>
    intro P x w hwf hP
    have HW := Lib.hid hwf
    have HIH := Lib.hid ih
    have HP := Lib.hid hP
    unfold Wf at hwf
    obtain ⟨k, m, s, a, len, cap, rfl, hlen, _⟩ := hwf
    obtain ⟨W0, hW0⟩ : ∃ W0, W0 = w.alloc (.cells #[.int .i64 k, .int .i64 m, .string s, .slice a len cap] 24) := ⟨_, rfl⟩
    have hb0 : W0.heap[w.heap.size]? = some (.cells #[.int .i64 k, .int .i64 m, .string s, .slice a len cap] 24 (0, 0)) := by rw [hW0]; exact heap_alloc_new _ _
    have hB0 : Below w.heap.size w W0 := by rw [hW0]; exact (Below.refl _ _).alloc (Nat.le_refl _) _
    have HW0 := Lib.hid hW0
    have HS0 := Lib.hid (Spoilt.of_below (P := P) hB0)
    have Hb0 := Lib.hid hb0
    have hz0 := heap_lt hb0
    clear ih hP hW0 hb0 hB0
    go_enter Tryz.func23, Tryz.ntmps23
    go_wp2_with fail
    rw [← HW0.out]
    go_loopw [6] (fun i wr => ∃ t : Nat, t ≤ len ∧ i = .int .i64 t ∧ Spoilt P W0 wr) (fun i _ => len - (intOf i).toNat)
    case atStart => exact ⟨0, Nat.zero_le _, rfl, Spoilt.of_below (Below.refl _ _)⟩
    case round =>
      obtain ⟨t, ht, rfl, hsp⟩ := hrel
      have HSP := Lib.hid (HS0.out.trans hsp)
      have HSP0 := Lib.hid hsp
      have hnp : ¬ P w.heap.size := fun h => by have := HP.out _ h; omega
      have hbx := (hsp.block _ hz0 hnp).trans Hb0.out
      obtain ⟨p0, p1, p2, p3⟩ := block4 hbx
      have hzr := hsp.size
      have Hbx := Lib.hid hbx
      clear hsp hbx
      by_cases hlt : t < len
      · have hwr := HW.out.spoilt HSP.out
        unfold Wf at hwr
        obtain ⟨k', m', s', a', len', cap', e, _, hrow⟩ := hwr
        simp at e
        obtain ⟨rfl, rfl, rfl, rfl, rfl, rfl⟩ := e
        obtain ⟨g, cur, rfl, hg, hcur, hel⟩ := hrow.resolve_left (by omega)
        obtain ⟨c0, c1, c2, c3, hgr, hwe⟩ := hel t hlt
        have e0 : wr.cell? ⟨g, t * 4, none⟩ = some c0 := by rw [cell_of hcur]; exact hgr.1
        have e1 : wr.cell? ⟨g, t * 4 + 1, none⟩ = some c1 := by rw [cell_of hcur]; exact hgr.2.1
        have e2 : wr.cell? ⟨g, t * 4 + 2, none⟩ = some c2 := by rw [cell_of hcur]; exact hgr.2.2.1
        have e3 : wr.cell? ⟨g, t * 4 + 3, none⟩ = some c3 := by rw [cell_of hcur]; exact hgr.2.2.2
        have HG := Lib.hid hg
        have HCUR := Lib.hid hcur
        have HGR := Lib.hid hgr
        have HC := Lib.hid (HIH.out P _ wr hwe (fun j hj => by have := HP.out j hj; omega))
        clear hrow hel hwe hg hcur hgr
        go_wp2_with fail
        refine HC.out.mono ?_
        rintro e w5 ⟨rfl, hs5⟩
        obtain ⟨cur5, hc5, hg5⟩ := hs5.own g cur HG.out HCUR.out
        obtain ⟨d0, d1, d2, d3, hgr5⟩ : ∃ d0 d1 d2 d3, grp cur5 t d0 d1 d2 d3 := by
          rcases hg5 t _ _ _ _ HGR.out with h | h
          · exact ⟨_, _, _, _, h⟩
          · exact ⟨_, _, _, _, h⟩
        have HS5 := Lib.hid hs5
        have hbx5 := (hs5.block _ (heap_lt Hbx.out) hnp).trans Hbx.out
        clear p0 p1 p2 p3 e0 e1 e2 e3 HC hg5 hs5
        obtain ⟨p0, p1, p2, p3⟩ := block4 hbx5
        have e0 : w5.cell? ⟨g, t * 4, none⟩ = some d0 := by rw [cell_of hc5]; exact hgr5.1
        have e1 : w5.cell? ⟨g, t * 4 + 1, none⟩ = some d1 := by rw [cell_of hc5]; exact hgr5.2.1
        have e2 : w5.cell? ⟨g, t * 4 + 2, none⟩ = some d2 := by rw [cell_of hc5]; exact hgr5.2.2.1
        have e3 : w5.cell? ⟨g, t * 4 + 3, none⟩ = some d3 := by rw [cell_of hc5]; exact hgr5.2.2.2
        have f0 := free_of (j := t * 4) hc5
        have f1 := free_of (j := t * 4 + 1) hc5
        have f2 := free_of (j := t * 4 + 2) hc5
        have f3 := free_of (j := t * 4 + 3) hc5
        have HSET := Lib.hid (spoilt_set HG.out hc5 hgr5)
        clear hbx5 hc5 hgr5
        go_wp2_with fail
        go_roundw
        case rel => exact ⟨t + 1, by omega, by go_num, (HSP0.out.trans HS5.out).trans HSET.out⟩
        case measure => simp [intOf]; omega
      · go_wp2_with fail
        go_end0
        exact ⟨rfl, HSP.out⟩

def BPostW (f : Nat) (w : World) (y : V) (e : Ending) (w' : World) : Prop := ∃ x, e = .returned (.tuple #[x, .bool true]) ∧ IsVP (fun j => w.heap.size ≤ j ∧ j < w'.heap.size) w' y x ∧ Wf f (fun j => w.heap.size ≤ j ∧ j < w'.heap.size) w' x ∧ Below w.heap.size w w'
def aggP (p : V × Value) : Value := .agg #[.int .i64 p.1.k, .int .i64 p.1.n, .string p.1.s, p.2]
def DoneW (n lo : Nat) (w : World) (sv : Value) (vb : Nat) (ps : List (V × Value)) : Prop := DoneB lo w sv vb ps ∧ ∀ p ∈ ps, Wf n (FreeB lo w.heap.size vb sv) w (aggP p)
theorem DoneW.nil (n lo : Nat) (w : World) (vb : Nat) : DoneW n lo w (.slice none 0 0) vb [] := ⟨DoneB.nil _ _ _, by simp⟩
theorem DoneW.below {n lo : Nat} {w w' : World} {sv : Value} {vb : Nat} {ps : List (V × Value)} (h : DoneW n lo w sv vb ps) (hb : Below w.heap.size w w') : DoneW n lo w' sv vb ps :=
  ⟨h.1.below hb, fun p hp => (h.2 p hp).move (fun k hk => ⟨⟨hk.1, Nat.lt_of_lt_of_le hk.2.1 hb.size, hk.2.2⟩, hb.block k hk.2.1⟩)⟩
theorem DoneW.push {n lo : Nat} {w w' : World} {sv sv' : Value} {vb : Nat} {ps : List (V × Value)} {p : V × Value} (h : DoneW n lo w sv vb ps) (hvb : vb < w.heap.size) (hp : SubP (FreeB lo w.heap.size vb sv) w p.1 p.2) (hwf : Wf n (FreeB lo w.heap.size vb sv) w (aggP p))
    (hown : w'.ownsRow lo 24 4 sv' (ps.length + 1) (ps.flatMap cellsP ++ cellsP p)) (hg : w.grownBy w' sv.ownBlock) (hat : sv'.ownBlock = sv.ownBlock ∨ sv'.ownBlock = some w.heap.size) : DoneW n lo w' sv' vb (ps ++ [p]) := by
  refine ⟨h.1.push hvb hp hown hg hat, ?_⟩
  have key : ∀ q : V × Value, Wf n (FreeB lo w.heap.size vb sv) w (aggP q) → Wf n (FreeB lo w'.heap.size vb sv') w' (aggP q) := by
    intro q hq
    refine hq.move (fun k hk => ⟨⟨hk.1, Nat.lt_of_lt_of_le hk.2.1 hg.size, ?_, hk.2.2.2⟩, hg.block k hk.2.1 (fun e => hk.2.2.1 e.symm)⟩)
    rcases hat with e | e
    · rw [e]; exact hk.2.2.1
    · rw [e]; intro e2; simp only [Option.some.injEq] at e2; have := hk.2.1; omega
  intro q hq
  rcases List.mem_append.1 hq with hq | hq
  · exact key q (h.2 q hq)
  · rw [List.mem_singleton.1 hq]; exact key p hwf
theorem DoneW.setCell {n lo : Nat} {w : World} {sv : Value} {vb j : Nat} {ps : List (V × Value)} (h : DoneW n lo w sv vb ps) (u : Value) : DoneW n lo (w.setCell ⟨vb, j, none⟩ u) sv vb ps :=
  ⟨h.1.setCell u, fun p hp => (h.2 p hp).move (fun k hk => ⟨⟨hk.1, by simpa using hk.2.1, hk.2.2⟩, Below.heap_setCell _ _ _ _ hk.2.2.2⟩)⟩
theorem cells_flat : ∀ {ps : List (V × Value)} {i : Nat} {p : V × Value} (j : Nat), ps[i]? = some p → j < 4 → (ps.flatMap cellsP)[i * 4 + j]? = (cellsP p)[j]?
  | [], i, p, j, h, _ => by simp at h
  | x :: r, 0, p, j, h, hj => by
    simp at h
    subst h
    rw [List.flatMap_cons, Nat.zero_mul, Nat.zero_add, List.getElem?_append_left (by simpa [cellsP] using hj)]
  | x :: r, i + 1, p, j, h, hj => by
    rw [List.flatMap_cons, List.getElem?_append_right (by simp [cellsP]; omega), show (cellsP x).length = 4 from rfl, show (i + 1) * 4 + j - 4 = i * 4 + j by omega]
    exact cells_flat j (by simpa using h) hj
theorem DoneW.wf {n lo : Nat} {w : World} {sv : Value} {vb : Nat} {ps : List (V × Value)} (h : DoneW n lo w sv vb ps) (k m : Int) (s : ByteArray) (hl : ps.length ≤ 140737488351232) : Wf (n + 1) (fun j => lo ≤ j ∧ j < w.heap.size) w (.agg #[.int .i64 k, .int .i64 m, .string s, sv]) := by
  obtain ⟨⟨h1, h2, h3⟩, h4⟩ := h
  unfold Wf
  rcases h1.2 with ⟨h5, h6⟩ | ⟨g, cap, cur, rfl, hB, hg, hlc, hcm, hcs, ht⟩
  · exact ⟨k, m, s, none, 0, 0, by rw [h5], Nat.zero_le _, .inl rfl⟩
  · refine ⟨k, m, s, some ⟨g, 0, none⟩, ps.length, cap, rfl, hl, .inr ⟨g, cur, rfl, ⟨hB, heap_lt hg⟩, hg, fun i hi => ?_⟩⟩
    have hp : ps[i]? = some ps[i] := List.getElem?_eq_getElem hi
    have hat : ∀ j, j < 4 → cur[i * 4 + j]? = (cellsP ps[i])[j]? := fun j hj => by
      rw [← cells_flat j hp hj, ← ht, List.getElem?_take_of_lt (by omega)]
      simp
    refine ⟨.int .i64 ps[i].1.k, .int .i64 ps[i].1.n, .string ps[i].1.s, ps[i].2, ⟨hat 0 (by omega), hat 1 (by omega), hat 2 (by omega), hat 3 (by omega)⟩, (h4 _ (List.getElem_mem hi)).move (fun j hj => ⟨⟨hj.1, hj.2.1⟩, rfl⟩)⟩

set_option maxRecDepth 100000 in
set_option maxHeartbeats 4000000 in
theorem backW_con3 (f : Nat) (n : Nat) (m : Nat) (st : St) (rb nb : Option Nat) (w : World) (ps : List V) (nd : Nd) (hst : Stor w m st rb nb) (hnd : st.2[n]? = some nd) (hps : leadVs (backV f st) nd.2 = some ps)
    (hrec : ∀ (w : World) (k n : Int) (y : V), Stor w m st rb nb → backV f st k n = some y → Calls Tryz.prog 25 #[.pointer (some ⟨m + 3, 0, none⟩), .int .i64 k, .int .i64 n] w (BPostW f w y)) :
    Calls Tryz.prog 25 #[.pointer (some ⟨m + 3, 0, none⟩), .int .i64 3, .int .i64 n] w (BPostW (f + 1) w (.mk 3 0 nd.1 ps)) := by
  have hn := (List.getElem?_eq_some_iff.1 hnd).1
  obtain ⟨hpl, hpat⟩ := lead_at hps
  have HST0 := Lib.hid hst
  have HREC := Lib.hid hrec
  have h2 := stor_new hst ((Below.refl _ _).alloc (Nat.le_refl _) (.cells #[.int .i64 0, .int .i64 0, .string ⟨#[]⟩, .slice none 0 0] 24))
  clear hst hrec
  obtain ⟨sv, nv, D, D', n0, n', hsto⟩ := h2
  obtain ⟨s0, s1, s2⟩ := hsto.c
  obtain ⟨cap2, g, cur, rfl, hgm, hgb, hlc, hcm, hcs, htk⟩ : ∃ cap g cur, nv = .slice (some ⟨g, 0, none⟩) st.2.length cap ∧ m + 4 ≤ g ∧ (w.alloc (.cells #[.int .i64 0, .int .i64 0, .string ⟨#[]⟩, .slice none 0 0] 24)).heap[g]? = some (.cells cur 77 (0, 0)) ∧ st.2.length ≤ cap ∧ cap ≤ maxLen ∧ cur.size = cap * 18 ∧ cur.toList.take (st.2.length * 18) = st.2.flatMap (fun n => (ndC n).toList) := by
    rcases hsto.row.2 with ⟨h1, h2⟩ | ⟨g, cap, cur, h1, h2, h3, h4, h5, h6, h7⟩
    · omega
    · exact ⟨cap, g, cur, h1, h2, h3, h4, h5, h6, h7⟩
  have hl := hsto.len
  have hi0 : decide ((n : Int) < 0) = false := by simp
  have hi1 : decide ((st.2.length : Int) ≤ n) = false := by simp; omega
  have HOKS := Lib.hid hsto.ok
  clear hsto
  have hok := HOKS.out nd (List.mem_of_getElem? hnd)
  have hl8 : nd.2.length ≤ 8 := hok.2.1
  have h80 : (0 : Int) ≤ (nd.2.length : Int) := by omega
  have h88 : (nd.2.length : Int) ≤ 8 := by omega
  have hsl : ∀ (w' : World), (Instr.sliceAt 75 (.pointer (some ⟨w.heap.size + 1, 2, none⟩)) none (some (.int .i64 (nd.2.length : Int))) none).run Tryz.prog w' = .ok (.slice (some ⟨w.heap.size + 1, 2, none⟩) nd.2.length 8) w' := fun w' => slice75 w' _ _ _ h80 h88
  have hrg : (w.alloc (.cells #[.int .i64 0, .int .i64 0, .string ⟨#[]⟩, .slice none 0 0] 24)).rangeAt g (n * 18) (ndC nd).toList := node_range hgb htk hnd
  have HPC := Lib.hid (fun k (h : k < 8) => part_cells nd h)
  have hsz77 : (ndC nd).toList.length = 18 := rfl
  obtain ⟨arr, harr⟩ : ∃ arr, arr = ndC nd := ⟨_, rfl⟩
  rw [← harr] at hrg hsz77 HPC
  have hz77 : (Tryz.prog.info? 77).map (·.size) = some arr.toList.length := by rw [size77, hsz77]
  have hone : arr.all (·.oneCell') = true := by rw [harr]; exact all_oneCell_toArray (ndP_one nd.1 nd.2.length nd.2)
  have hz77' : (Tryz.prog.info? 77).map (·.size) = some arr.size := by rw [harr]; exact size77
  have hN := new_store (w.alloc (.cells #[.int .i64 0, .int .i64 0, .string ⟨#[]⟩, .slice none 0 0] 24)) #[.string ⟨#[]⟩, .int .i64 0, .int .i64 0, .int .i64 0, .int .i64 0, .int .i64 0, .int .i64 0, .int .i64 0, .int .i64 0, .int .i64 0, .int .i64 0, .int .i64 0, .int .i64 0, .int .i64 0, .int .i64 0, .int .i64 0, .int .i64 0, .int .i64 0] arr 77 (by rw [harr]; rfl)
  rw [show (w.alloc (.cells #[.int .i64 0, .int .i64 0, .string ⟨#[]⟩, .slice none 0 0] 24)).heap.size = w.heap.size + 1 from by simp] at hN
  have hth : ((w.alloc (.cells #[.int .i64 0, .int .i64 0, .string ⟨#[]⟩, .slice none 0 0] 24)).alloc (.cells #[.string ⟨#[]⟩, .int .i64 0, .int .i64 0, .int .i64 0, .int .i64 0, .int .i64 0, .int .i64 0, .int .i64 0, .int .i64 0, .int .i64 0, .int .i64 0, .int .i64 0, .int .i64 0, .int .i64 0, .int .i64 0, .int .i64 0, .int .i64 0, .int .i64 0] 77)).there (w.heap.size + 1) 0 arr.size := by
    have h := there_new (w.alloc (.cells #[.int .i64 0, .int .i64 0, .string ⟨#[]⟩, .slice none 0 0] 24)) #[.string ⟨#[]⟩, .int .i64 0, .int .i64 0, .int .i64 0, .int .i64 0, .int .i64 0, .int .i64 0, .int .i64 0, .int .i64 0, .int .i64 0, .int .i64 0, .int .i64 0, .int .i64 0, .int .i64 0, .int .i64 0, .int .i64 0, .int .i64 0, .int .i64 0] 77
    rw [show (w.alloc (.cells #[.int .i64 0, .int .i64 0, .string ⟨#[]⟩, .slice none 0 0] 24)).heap.size = w.heap.size + 1 from by simp] at h
    rw [harr]
    exact h
  obtain ⟨W2, hW2⟩ : ∃ W2, W2 = ((w.alloc (.cells #[.int .i64 0, .int .i64 0, .string ⟨#[]⟩, .slice none 0 0] 24)).alloc (.cells #[.string ⟨#[]⟩, .int .i64 0, .int .i64 0, .int .i64 0, .int .i64 0, .int .i64 0, .int .i64 0, .int .i64 0, .int .i64 0, .int .i64 0, .int .i64 0, .int .i64 0, .int .i64 0, .int .i64 0, .int .i64 0, .int .i64 0, .int .i64 0, .int .i64 0] 77)).setCells (w.heap.size + 1) 0 arr.toList := ⟨_, rfl⟩
  rw [← hW2] at hN
  obtain ⟨hC1, hC2⟩ := hN
  have ha0 : arr[0]? = some (.string nd.1) := by rw [harr]; rfl
  have ha1 : arr[1]? = some (.int .i64 nd.2.length) := by rw [harr]; rfl
  clear harr
  have k0 : W2.cell? ⟨w.heap.size + 1, 0, none⟩ = some (.string nd.1) := by rw [cell_of hC1]; exact ha0
  have k1 : W2.cell? ⟨w.heap.size + 1, 1, none⟩ = some (.int .i64 nd.2.length) := by rw [cell_of hC1]; exact ha1
  have k0' : ∀ o, (W2.alloc o).cell? ⟨w.heap.size + 1, 0, none⟩ = some (.string nd.1) := kept_cell k0
  have k1' : ∀ o, (W2.alloc o).cell? ⟨w.heap.size + 1, 1, none⟩ = some (.int .i64 nd.2.length) := kept_cell k1
  have HW2 := Lib.hid hW2
  have HC1 := Lib.hid hC1
  have hBw : Below w.heap.size w W2 := ((Below.refl _ _).alloc (Nat.le_refl _) _).trans (hC2.mono (by omega))
  have HBW := Lib.hid hBw
  have hr0 : W2.heap[w.heap.size]? = some (.cells #[.int .i64 0, .int .i64 0, .string ⟨#[]⟩, .slice none 0 0] 24 (0, 0)) := (hC2.block _ (by omega)).trans (heap_alloc_new _ _)
  have HR0 := Lib.hid hr0
  have hlt1 := heap_lt hC1
  clear hW2 hC1 hC2 hBw hr0
  have qT : ∀ (w : World) (r : Option Nat), (binOp .eql 55 (.map r) (.map none)).run Tryz.prog w = .ok (.bool r.isNone) w := fun w r => run_eql_map_nil w _ _ _ r Tryz.underlying55
  go_enter Tryz.func25, Tryz.ntmps25
  go_wp2_with (first | (refine wpList_load_mid rfl 77 _ rfl g (n * 18) rfl arr.toList _ hrg Tryz.underlying77 rfl hz77 ?_) | (refine wpList_store_mid rfl 77 _ _ rfl (w.heap.size + 1) 0 arr rfl rfl hth hz77' hone ?_; rw [← HW2.out]) | fail)

  obtain ⟨W3, hW3⟩ : ∃ W3, W3 = W2.alloc (.cells #[.int .i64 3, .int .i64 0, .string nd.1, .slice none 0 0] 24) := ⟨_, rfl⟩
  rw [← hW3]
  have hb3 : W3.heap[W2.heap.size]? = some (.cells #[.int .i64 3, .int .i64 0, .string nd.1, .slice none 0 0] 24 (0, 0)) := by rw [hW3]; exact heap_alloc_new _ _
  have hB3 : Below W2.heap.size W2 W3 := by rw [hW3]; exact (Below.refl _ _).alloc (Nat.le_refl _) _
  have hs3 : W3.heap.size = W2.heap.size + 1 := by rw [hW3]; simp
  have HB3 := Lib.hid hB3
  have Hb3 := Lib.hid hb3
  clear hW3 hb3 hB3 k0 k1 k0' k1' hrg hth hz77 hz77' hone hsl s0 s1 s2 hgb htk ha0 ha1 qT hi0 hi1
  go_loopw [76] (fun i wr => ∃ (k : Nat) (done : List (V × Value)) (sv : Value), k ≤ nd.2.length ∧ i = .int .i64 k ∧ done.length = k ∧ done.map (·.1) = ps.take k ∧ wr.heap[W2.heap.size]? = some (.cells #[.int .i64 3, .int .i64 0, .string nd.1, sv] 24 (0, 0)) ∧ DoneW f (W2.heap.size + 1) wr sv W2.heap.size done ∧ Below W2.heap.size W2 wr) (fun i _ => nd.2.length - (intOf i).toNat)
  case atStart => exact ⟨0, [], .slice none 0 0, Nat.zero_le _, rfl, rfl, by simp, Hb3.out, DoneW.nil _ _ _ _, HB3.out⟩
  case round =>
    obtain ⟨k, done, sv, hk, rfl, hdl, hdm, hvb, hD, hB⟩ := hrel
    have HVB := Lib.hid hvb
    have HD := Lib.hid hD
    have HBR := Lib.hid hB
    have HDL := Lib.hid hdl
    have HDM := Lib.hid hdm
    have hvlt := heap_lt hvb
    have hsl2 : ∃ a cap, sv = .slice a k cap := by
      rcases hD.1.1.2 with ⟨h1, h2⟩ | ⟨g, cap, cur, h1, _⟩
      · exact ⟨none, 0, by rw [h1]; congr 1; omega⟩
      · exact ⟨_, cap, by rw [h1, hdl]⟩
    obtain ⟨a, cap, rfl⟩ := hsl2
    clear hvb hD hB hdl hdm
    by_cases hlt : k < nd.2.length
    · obtain ⟨y, hy1, hy2⟩ := hpat k _ (pt_at hlt)
      have hc1 := (HBR.out.block _ hlt1).trans HC1.out
      have e0 : wr.cell? ⟨w.heap.size + 1, 2 + k * 2, none⟩ = some (.int .i64 (pt nd k).1) := by rw [cell_of hc1]; exact (HPC.out k (by omega)).1
      have e1 : wr.cell? ⟨w.heap.size + 1, 2 + k * 2 + 1, none⟩ = some (.int .i64 (pt nd k).2) := by rw [cell_of hc1]; exact (HPC.out k (by omega)).2
      obtain ⟨W4, hW4⟩ : ∃ W4, W4 = wr.alloc (.cells #[.int .i64 (pt nd k).1, .int .i64 (pt nd k).2] 74) := ⟨_, rfl⟩
      have hb4 : W4.heap[wr.heap.size]? = some (.cells #[.int .i64 (pt nd k).1, .int .i64 (pt nd k).2] 74 (0, 0)) := by rw [hW4]; exact heap_alloc_new _ _
      have hB4 : Below wr.heap.size wr W4 := by rw [hW4]; exact (Below.refl _ _).alloc (Nat.le_refl _) _
      have hs4 : W4.heap.size = wr.heap.size + 1 := by rw [hW4]; simp
      have HB4 := Lib.hid hB4
      have Hb4 := Lib.hid hb4
      have HW4 := Lib.hid hW4
      have HY := Lib.hid hy2
      have HST4 := Lib.hid (stor_new HST0.out ((HBW.out.trans (HBR.out.mono HBW.out.size)).trans (hB4.mono (by have h1 := HBW.out.size; have h2 := HBR.out.size; omega))))
      clear hy2 hb4 hB4 hW4 hc1
      go_wp2_with fail
      rw [← HW4.out]
      refine (HREC.out _ _ _ y HST4.out HY.out).mono ?_
      rintro e w5 ⟨x, rfl, hx5, hwf5, hb5⟩
      obtain ⟨sl5, rfl, hsub5⟩ := hx5
      obtain ⟨a5, cap5, rfl⟩ := subP_slice hsub5
      have hz5 := hb5.size
      have hb5v : w5.heap[W2.heap.size]? = some (.cells #[.int .i64 3, .int .i64 0, .string nd.1, .slice a k cap] 24 (0, 0)) := (hb5.block _ (by omega)).trans ((HB4.out.block _ hvlt).trans HVB.out)
      have HSUB := Lib.hid hsub5
      have HWF := Lib.hid hwf5
      have HB5 := Lib.hid hb5
      have HB5V := Lib.hid hb5v
      clear hsub5 hwf5 hb5 hb5v e0 e1
      obtain ⟨W6, hW6⟩ : ∃ W6, W6 = w5.alloc (.cells #[.int .i64 y.k, .int .i64 y.n, .string y.s, .slice a5 y.ps.length cap5] 24) := ⟨_, rfl⟩
      have HW6 := Lib.hid hW6
      have hb6 : W6.heap[w5.heap.size]? = some (.cells #[.int .i64 y.k, .int .i64 y.n, .string y.s, .slice a5 y.ps.length cap5] 24 (0, 0)) := by rw [hW6]; exact heap_alloc_new _ _
      have hb6v : W6.heap[W2.heap.size]? = some (.cells #[.int .i64 3, .int .i64 0, .string nd.1, .slice a k cap] 24 (0, 0)) := by rw [hW6, heap_alloc_old _ _ (heap_lt HB5V.out)]; exact HB5V.out
      have hs6 : W6.heap.size = w5.heap.size + 1 := by rw [hW6]; simp
      clear hW6
      go_upto_region 18 with fail
      rw [← HW6.out]
      have r0 : W6.cell? ⟨W2.heap.size, 3, none⟩ = some (.slice a k cap) := by rw [cell_of hb6v]; rfl
      obtain ⟨q0, q1, q2, q3⟩ := block4 hb6
      have r2 := build24 W6 (.int .i64 y.k) (.int .i64 y.n) (.string y.s) (.slice a5 y.ps.length cap5)
      have hBW6 : Below wr.heap.size wr W6 := ((HB4.out.trans (HB5.out.mono (by omega))).trans (by rw [HW6.out]; exact (Below.refl _ _).alloc (by omega) _))
      obtain ⟨W7, hW7⟩ : ∃ W7, W7 = W6.alloc (.cells #[.int .i64 y.k, .int .i64 y.n, .string y.s, .slice a5 y.ps.length cap5] 24) := ⟨_, rfl⟩
      have hs7 : W7.heap.size = W6.heap.size + 1 := by rw [hW7]; simp
      have hBW7 : Below wr.heap.size wr W7 := hBW6.trans (by rw [hW7]; exact (Below.refl _ _).alloc (by have := hBW6.size; omega) _)
      have hD7 := HD.out.below hBW7
      have hb7 : W7.heap[W2.heap.size]? = some (.cells #[.int .i64 3, .int .i64 0, .string nd.1, .slice a k cap] 24 (0, 0)) := (hBW7.block _ hvlt).trans HVB.out
      have hown7 := hD7.1.1
      rw [HDL.out] at hown7
      have hnews : ∀ j u, (cellsP (y, .slice a5 y.ps.length cap5))[j]? = some u → W7.cell? ((⟨W6.heap.size, 0, none⟩ : Addr).add j) = some u := fun j u hu => by
        rw [hW7]
        exact World.news_of_block (heap_alloc_new W6 (.cells #[.int .i64 y.k, .int .i64 y.n, .string y.s, .slice a5 y.ps.length cap5] 24)) j u (by simpa [cellsP] using hu)
      have hsub7 : SubP (FreeB (W2.heap.size + 1) W7.heap.size W2.heap.size (.slice a k cap)) W7 y (.slice a5 y.ps.length cap5) := HSUB.out.move (fun j hj => ⟨⟨by have h2 : W4.heap.size ≤ j := hj.1; omega, by have h2 : j < w5.heap.size := hj.2; omega, fun e => by
        have h1 := (HD.out.1.1.lt j e).2
        have h2 : W4.heap.size ≤ j := hj.1
        omega, by have h2 : W4.heap.size ≤ j := hj.1; omega⟩, fun j' => World.cell?_of_block (a := ⟨j, j', none⟩) (by have h2 : j < w5.heap.size := hj.2; rw [hW7, heap_alloc_old _ _ (show j < W6.heap.size by omega), HW6.out, heap_alloc_old _ _ h2])⟩)
      have hwf7 : Wf f (FreeB (W2.heap.size + 1) W7.heap.size W2.heap.size (.slice a k cap)) W7 (.agg #[.int .i64 y.k, .int .i64 y.n, .string y.s, .slice a5 y.ps.length cap5]) := HWF.out.move (fun j hj => ⟨⟨by have h2 : W4.heap.size ≤ j := hj.1; omega, by have h2 : j < w5.heap.size := hj.2; omega, fun e => by
        have h1 := (HD.out.1.1.lt j e).2
        have h2 : W4.heap.size ≤ j := hj.1
        omega, by have h2 : W4.heap.size ≤ j := hj.1; omega⟩, by have h2 : j < w5.heap.size := hj.2; rw [hW7, heap_alloc_old _ _ (show j < W6.heap.size by omega), HW6.out, heap_alloc_old _ _ h2]⟩)
      have HWF7 := Lib.hid hwf7
      clear hwf7
      obtain ⟨i7, hi7, hz7, hs7', hy7⟩ := info24
      have HD7 := Lib.hid hD7
      have Hb7 := Lib.hid hb7
      have HOWN7 := Lib.hid hown7
      have HNEWS := Lib.hid hnews
      have HSUB7 := Lib.hid hsub7
      have HBW7 := Lib.hid hBW7
      have HW7 := Lib.hid hW7
      have hbase : W2.heap.size + 1 ≤ W7.heap.size := by omega
      have hv7 : W2.heap.size < W7.heap.size := by omega
      have HS6 := Lib.hid hs6
      have HS7 := Lib.hid hs7
      have HS4 := Lib.hid hs4
      have HS3 := Lib.hid hs3
      clear hs3 hs4 hs6 hs7 hW7 hD7 hb7 hown7 hnews hsub7 hBW7 hBW6 hb6 hb6v
      rw [← HW7.out] at r2
      have r1 := load24 (show W6.heap[w5.heap.size]? = some (.cells #[.int .i64 y.k, .int .i64 y.n, .string y.s, .slice a5 y.ps.length cap5] 24 (0, 0)) from by rw [HW6.out]; exact heap_alloc_new _ _)
      have R1 := Lib.hid r1
      have R2 := Lib.hid r2
      clear r1 r2
      refine wp_region_lit ?_
      iterate 2
        refine wpList_plain rfl (fun K hK => ?_)
        go_simp
        refine hK _ _ ?_
        clear hK K
        try simp only [Act.put, List.setIfInBounds_toArray, List.set_cons_zero, List.set_cons_succ]
      refine wpList_plain rfl (fun K hK => ?_)
      refine wp_run (.agg #[.int .i64 y.k, .int .i64 y.n, .string y.s, .slice a5 y.ps.length cap5]) W6 (exec_load 24 (.tmp 14) rfl _ _ (by rfl) R1.out) ?_
      refine hK _ _ ?_
      clear hK K
      try simp only [Act.put, List.setIfInBounds_toArray, List.set_cons_zero, List.set_cons_succ]
      refine wpList_plain rfl (fun K hK => ?_)
      refine wp_run (.slice (some ⟨W6.heap.size, 0, none⟩) 1 1) W7 (exec_build 22 1 (.tmp 91) rfl _ _ (by rfl) R2.out) ?_
      refine hK _ _ ?_
      clear hK K
      try simp only [Act.put, List.setIfInBounds_toArray, List.set_cons_zero, List.set_cons_succ]
      refine wpList_append_lies W7 rfl (.tmp 90) (.tmp 92) 22 (by rfl) (W2.heap.size + 1) 24 i7 _ 4 56 Tryz.underlying22 hi7 hz7 hs7' hy7 rfl (by omega) (.slice a k cap) k _ (by rfl) HOWN7.out ⟨W6.heap.size, 0, none⟩ 1 1 (cellsP (y, .slice a5 y.ps.length cap5)) (by rfl) rfl HNEWS.out (by simp [cellsP, Value.oneCell']) (by omega) (by unfold maxLen; omega) (by omega) hbase _ rfl ?_
      intro g4 cap4 w8 hown8 hg8 hat8 hlt8
      try simp only [Act.put, List.setIfInBounds_toArray, List.set_cons_zero, List.set_cons_succ]
      have hb8 : w8.heap[W2.heap.size]? = some (.cells #[.int .i64 3, .int .i64 0, .string nd.1, .slice a k cap] 24 (0, 0)) := ((hg8.block W2.heap.size hv7 (fun e => HD.out.1.2.1 e.symm)).trans Hb7.out)
      have c8 : w8.cell? ⟨W2.heap.size, 3, none⟩ = some (.slice a k cap) := (by rw [cell_of hb8]; rfl)
      have f8 := free_of (j := 3) hb8
      have Hb8 := Lib.hid hb8
      have HOWN8 := Lib.hid hown8
      have HG8 := Lib.hid hg8
      have HAT8 := Lib.hid hat8
      clear hb8 hown8 hg8 hat8 r0 q0 q1 q2 q3
      go_wp2_with fail
      go_roundw
      case rel =>
        refine ⟨k + 1, done ++ [(y, .slice a5 y.ps.length cap5)], .slice (some ⟨g4, 0, none⟩) (k + 1) cap4, by omega, by go_num, by simp [HDL.out], ?_, ?_, ?_, ?_⟩
        · rw [List.map_append, HDM.out, List.take_add_one, hy1]; rfl
        · rw [set_block Hb8.out]; rfl
        · exact (HD7.out.push (p := (y, .slice a5 y.ps.length cap5)) hv7 HSUB7.out HWF7.out (by rw [HDL.out]; exact HOWN8.out) HG8.out (sv' := .slice (some ⟨g4, 0, none⟩) (k + 1) cap4) (HAT8.out.imp (fun h => h.symm) (fun h => congrArg some h))).setCell _
        · refine Below.setCell (p := ⟨W2.heap.size, 3, none⟩) (B := W2.heap.size) ?_ (Nat.le_refl W2.heap.size) _
          refine (HBR.out.trans (HBW7.out.mono (by omega))).trans ⟨HG8.out.os, HG8.out.tape, HG8.out.output, HG8.out.size, fun j hj => HG8.out.block j (by omega) (fun e => ?_)⟩
          have h1 := (HOWN7.out.lt j e.symm).1
          omega
      case measure => simp [intOf]; omega
    · obtain rfl : k = nd.2.length := by omega
      have hr0 : wr.heap[w.heap.size]? = some (.cells #[.int .i64 0, .int .i64 0, .string ⟨#[]⟩, .slice none 0 0] 24 (0, 0)) := (HBR.out.block _ (by omega)).trans HR0.out
      obtain ⟨c0, c1, c2, c3⟩ := block4 HVB.out
      obtain ⟨d0, d1, d2, d3⟩ := block4 hr0
      have f0 := free_of (j := 0) hr0
      have f1 := free_of (j := 1) hr0
      have f2 := free_of (j := 2) hr0
      have f3 := free_of (j := 3) hr0
      have Hr0 := Lib.hid hr0
      have HS3 := Lib.hid hs3
      clear hr0 hs3
      go_wp2_with fail
      (try simp only [Exit.inBlock, Exit.then])
      have hb9 : ((((wr.setCell ⟨w.heap.size, 0, none⟩ (.int .i64 3)).setCell ⟨w.heap.size, 1, none⟩ (.int .i64 0)).setCell ⟨w.heap.size, 2, none⟩ (.string nd.1)).setCell ⟨w.heap.size, 3, none⟩ (.slice a nd.2.length cap)).heap[w.heap.size]? = some (.cells #[.int .i64 3, .int .i64 0, .string nd.1, .slice a nd.2.length cap] 24 (0, 0)) := by
        rw [set_block (set_block (set_block (set_block Hr0.out)))]; rfl
      refine bodyPost_ret (results_cell2 rfl _ _ w.heap.size 24 #[.int .i64 3, .int .i64 0, .string nd.1, .slice a nd.2.length cap] (0, 0) _ rfl hb9 Tryz.underlying24 rfl size24) rfl ?_
      have hD := HD.out.1.isVP 3 0 nd.1
      have hDW := HD.out.wf 3 0 nd.1 (by have := HDL.out; omega)
      rw [HDM.out, List.take_of_length_le (by omega)] at hD
      refine ⟨_, rfl, hD.move (fun j hj => ⟨⟨by have h1 := hj.1; omega, by simpa [World.setCell] using hj.2⟩, fun j' => World.cell?_of_block (a := ⟨j, j', none⟩) ?_⟩), hDW.move (fun j hj => ⟨⟨by have h1 := hj.1; omega, by simpa [World.setCell] using hj.2⟩, ?_⟩), ?_⟩
      · have h1 : W2.heap.size + 1 ≤ j := hj.1
        rw [Below.heap_setCell _ _ _ _ (show j ≠ w.heap.size by omega), Below.heap_setCell _ _ _ _ (show j ≠ w.heap.size by omega), Below.heap_setCell _ _ _ _ (show j ≠ w.heap.size by omega), Below.heap_setCell _ _ _ _ (show j ≠ w.heap.size by omega)]
      · have h1 : W2.heap.size + 1 ≤ j := hj.1
        rw [Below.heap_setCell _ _ _ _ (show j ≠ w.heap.size by omega), Below.heap_setCell _ _ _ _ (show j ≠ w.heap.size by omega), Below.heap_setCell _ _ _ _ (show j ≠ w.heap.size by omega), Below.heap_setCell _ _ _ _ (show j ≠ w.heap.size by omega)]
      · have h1 : Below w.heap.size w wr := HBW.out.trans (HBR.out.mono (by omega))
        exact (((h1.setCell (p := ⟨w.heap.size, 0, none⟩) (Nat.le_refl _) _).setCell (p := ⟨w.heap.size, 1, none⟩) (Nat.le_refl _) _).setCell (p := ⟨w.heap.size, 2, none⟩) (Nat.le_refl _) _).setCell (p := ⟨w.heap.size, 3, none⟩) (Nat.le_refl _) _

theorem backW_any : ∀ (f : Nat) (m : Nat) (st : St) (rb nb : Option Nat) (w : World) (k n : Int) (y : V), Stor w m st rb nb → backV f st k n = some y →
    Calls Tryz.prog 25 #[.pointer (some ⟨m + 3, 0, none⟩), .int .i64 k, .int .i64 n] w (BPostW f w y)
  | 0, _, _, _, _, _, _, _, _, _, h => by unfold backV at h; cases h
  | f + 1, m, st, rb, nb, w, k, n, y, hst, h => by
    by_cases h1 : k = 1
    · subst h1
      rw [back_num] at h
      obtain rfl := Option.some.inj h
      refine (back_one n m st rb nb w hst).mono ?_
      rintro e w' ⟨rfl, hb⟩
      exact ⟨_, rfl, flat_vp _ _ _ _ _, wf_flat _ _ _ _ _ _, hb⟩
    · by_cases h2 : k = 2
      · subst h2
        by_cases hn : 0 ≤ n
        · obtain ⟨j, rfl⟩ := Int.eq_ofNat_of_zero_le hn
          have h' := back_sym f st j
          rw [show ((j : Nat) : Int) = (j : Int) from rfl] at h'
          rw [h'] at h
          cases ht : st.1[j]? with
          | none => rw [ht] at h; cases h
          | some t =>
            rw [ht] at h
            obtain rfl := Option.some.inj h
            obtain ⟨h3, h4⟩ := txt_at ht
            refine (back_two j t m st rb nb w hst h3 h4).mono ?_
            rintro e w' ⟨rfl, hb⟩
            exact ⟨_, rfl, flat_vp _ _ _ _ _, wf_flat _ _ _ _ _ _, hb⟩
        · unfold backV at h
          simp [hn] at h
      · by_cases h3 : k = 3
        · subst h3
          by_cases hn : 0 ≤ n
          · obtain ⟨j, rfl⟩ := Int.eq_ofNat_of_zero_le hn
            rw [back_con f st j hn] at h
            rw [Int.toNat_natCast] at h
            cases ht : st.2[j]? with
            | none => rw [ht] at h; cases h
            | some nd =>
              rw [ht] at h
              cases hl : leadVs (backV f st) nd.2 with
              | none => simp [hl] at h
              | some ps =>
                simp [hl] at h
                subst h
                exact backW_con3 f j m st rb nb w ps nd hst ht hl (fun w k n y hs hb => backW_any f m st rb nb w k n y hs hb)
          · unfold backV at h
            simp [hn] at h
        · unfold backV at h
          simp [h1, h2, h3] at h

theorem results_cell1 {P : Program} {fn : Func} {p : Tmp} {ty : TypeId} (h : fn.results = #[.cell p ty]) (tmps : Array Value) (w : World) (g : Nat) (t : TypeId) (cs : Array Value) (fr : Nat × Nat) (d : TypeDesc)
    (hp : tmps.getD p undef = .pointer (some ⟨g, 0, none⟩)) (hg : w.heap[g]? = some (.cells cs t fr))
    (hu : P.underlying ty = some d) (hd : (match d with | .struct _ | .array _ _ => true | _ => false) = true) (hi : (P.info? ty).map (·.size) = some cs.size) :
    (results fn tmps).run P w = .ok (.agg cs) w := by
  have e : (results fn tmps).run P w = ((asAddr (tmps.getD p undef)).run P w).andThen fun a w₁ => (loadVar ty a).run P w₁ := by
    simp only [results, h]
    simp [Sem.run_bind, Result.andThen]
  rw [e, hp]
  simp [asAddr, run_loadVar_row w g t ty cs fr d hg hu hd hi, Result.andThen]
/-- what copied answers -/
def CPost (n : Nat) (w : World) (v : V) (e : Ending) (w' : World) : Prop := ∃ x, e = .returned x ∧ IsVP (fun j => w.heap.size ≤ j ∧ j < w'.heap.size) w' v x ∧ Wf n (fun j => w.heap.size ≤ j ∧ j < w'.heap.size) w' x ∧ Below w.heap.size w w'

theorem may_parts {v : V} {d : Int} (h : mayV v d = true) : v.ps.length ≤ 8 ∧ ∀ y ∈ v.ps, ∃ e, mayV y e = true := by
  by_cases h3 : v.k = 3
  · have hm := mayV_con v d h3
    rw [h] at hm
    simp only [eq_comm (a := true), Bool.and_eq_true, decide_eq_true_eq] at hm
    exact ⟨by have := hm.1.1.2; omega, fun y hy => ⟨d + 1, mayVs_mem hm.2 y hy⟩⟩
  · cases v with
    | mk k n s ps =>
      have hps : ps = [] := by
        rcases may_kind h h3 with h1 | h1
        · have h1 : k = 1 := h1
          unfold mayV at h
          rw [if_pos h1] at h
          simp at h
          exact h.2
        · have h1 : k = 2 := h1
          unfold mayV at h
          rw [if_neg (by omega), if_pos h1] at h
          simp at h
          exact h.1.2
      subst hps
      exact ⟨Nat.zero_le _, fun y (hy : y ∈ ([] : List V)) => by cases hy⟩

set_option maxRecDepth 100000 in
set_option maxHeartbeats 8000000 in
theorem copied_any (N : Nat) : ∀ (v : V) (x : Value) (d : Int) (B : Nat) (w : World), v.sz < N → IsV B w v x → B ≤ w.heap.size → v.Ok → mayV v d = true → Calls Tryz.prog 20 #[x] w (CPost N w v) := by
  induction N with
  | zero => intro v x d B w h; omega
  | succ N ih =>
    intro v x d B w hN hx hB hok hmay
    obtain ⟨h8, hpm⟩ := may_parts hmay
    have HPM := Lib.hid hpm
    obtain ⟨a0, cap0, rfl, hcap, hel⟩ := hx.open
    have hlen := ok_len hok
    have HIH := Lib.hid ih
    have HE := Lib.hid hel
    have HOK := Lib.hid hok
    have HNN := Lib.hid hN
    clear ih hel hx hok hN hpm hmay
    go_enter Tryz.func20, Tryz.ntmps20
    go_wp2_with fail
    obtain ⟨vb, hvb⟩ : ∃ vb, vb = w.heap.size + 1 + 1 := ⟨_, rfl⟩
    obtain ⟨W0, hW0⟩ : ∃ W0, W0 = ((w.alloc (.cells #[.int .i64 v.k, .int .i64 v.n, .string v.s, .slice a0 v.ps.length cap0] 24)).alloc (.cells #[.int .i64 0, .int .i64 0, .string ⟨#[]⟩, .slice none 0 0] 24)).alloc (.cells #[.int .i64 v.k, .int .i64 v.n, .string v.s, .slice none 0 0] 24) := ⟨_, rfl⟩
    obtain ⟨hz0, hB0, hb0, hb1, hb2⟩ := three_new w (.cells #[.int .i64 v.k, .int .i64 v.n, .string v.s, .slice a0 v.ps.length cap0] 24) (.cells #[.int .i64 0, .int .i64 0, .string ⟨#[]⟩, .slice none 0 0] 24) (.cells #[.int .i64 v.k, .int .i64 v.n, .string v.s, .slice none 0 0] 24)
    rw [← hW0] at hz0 hB0 hb0 hb1 hb2
    rw [← hW0]
    rw [← hvb] at hb2 ⊢
    have HB0 := Lib.hid hB0
    have Hb0 := Lib.hid hb0
    have Hb1 := Lib.hid hb1
    have Hb2 := Lib.hid hb2
    have HVBE := Lib.hid hvb
    have HZ0 := Lib.hid hz0
    have hvw : w.heap.size + 2 ≤ vb := by omega
    have hBW0 : Below vb W0 W0 := Below.refl _ _
    clear hW0 hB0 hb0 hb1 hb2 hz0 hvb
    go_loopw [11] (fun i wr => ∃ (k : Nat) (done : List (V × Value)) (sv : Value), k ≤ v.ps.length ∧ i = .int .i64 k ∧ done.length = k ∧ done.map (·.1) = v.ps.take k ∧ wr.heap[vb]? = some (.cells #[.int .i64 v.k, .int .i64 v.n, .string v.s, sv] 24 (0, 0)) ∧ DoneW N (vb + 1) wr sv vb done ∧ Below vb W0 wr) (fun i _ => v.ps.length - (intOf i).toNat)
    case atStart => exact ⟨0, [], .slice none 0 0, Nat.zero_le _, rfl, rfl, by simp, Hb2.out, DoneW.nil _ _ _ _, hBW0⟩
    case round =>
      obtain ⟨k, done, sv, hk, rfl, hdl, hdm, hvb, hD, hB'⟩ := hrel
      have HVB := Lib.hid hvb
      have HD := Lib.hid hD
      have HBR := Lib.hid hB'
      have HDL := Lib.hid hdl
      have HDM := Lib.hid hdm
      have hvlt := heap_lt hvb
      have hsl2 : ∃ a cap, sv = .slice a k cap := by
        rcases hD.1.1.2 with ⟨h1, h2⟩ | ⟨g, cap, cur, h1, _⟩
        · exact ⟨none, 0, by rw [h1]; congr 1; omega⟩
        · exact ⟨_, cap, by rw [h1, hdl]⟩
      obtain ⟨a, cap, rfl⟩ := hsl2
      clear hvb hD hB' hdl hdm
      by_cases hlt : k < v.ps.length
      · obtain ⟨be, off, rfl, hbB, hels⟩ := HE.out.resolve_left (by intro e; rw [e] at hlt; simp at hlt)
        have HBB := Lib.hid (show Below B w wr from (HB0.out.mono hB).trans (HBR.out.mono (by omega)))
        obtain ⟨sl, e0, e1, e2, e3, hsub⟩ := (hels.below HBB.out hbB).at hlt
        obtain ⟨a2, cap2, rfl⟩ := sub_slice hsub
        have HS := Lib.hid (sub_isV hsub)
        have hm := Lib.hid (nthV_mem hlt)
        have HY : Hid (v.ps[k]? = some (nthV v.ps k)) := Lib.hid (nthV_some hlt)
        have hszp := size_part hm.out
        obtain ⟨y, hy⟩ : ∃ y, nthV v.ps k = y := ⟨_, rfl⟩
        have hyo := ok_part HOK.out hm.out
        obtain ⟨dy, hym⟩ := HPM.out _ hm.out
        rw [hy] at e0 e1 e2 e3 HS HY hszp hyo hym
        have HYO := Lib.hid hyo
        have HYM := Lib.hid hym
        clear hsub hels hm hy hyo hym
        obtain ⟨W4, hW4⟩ : ∃ W4, W4 = wr.alloc (.cells #[.int .i64 y.k, .int .i64 y.n, .string y.s, .slice a2 y.ps.length cap2] 24) := ⟨_, rfl⟩
        have hb4 : W4.heap[wr.heap.size]? = some (.cells #[.int .i64 y.k, .int .i64 y.n, .string y.s, .slice a2 y.ps.length cap2] 24 (0, 0)) := by rw [hW4]; exact heap_alloc_new _ _
        have hB4 : Below wr.heap.size wr W4 := by rw [hW4]; exact (Below.refl _ _).alloc (Nat.le_refl _) _
        have hs4 : W4.heap.size = wr.heap.size + 1 := by rw [hW4]; simp
        have hBsz : B ≤ wr.heap.size := by have := HBR.out.size; have := HZ0.out; omega
        have HB4 := Lib.hid hB4
        have HW4 := Lib.hid hW4
        have HS4 := Lib.hid hs4
        have HCALL := Lib.hid (show ∀ X, Below W4.heap.size W4 X → Calls Tryz.prog 20 #[.agg #[.int .i64 y.k, .int .i64 y.n, .string y.s, .slice a2 y.ps.length cap2]] X (CPost N X y) from fun X hX => HIH.out y _ dy B X (by have := HNN.out; omega) (HS.out.below ((HB4.out.mono hBsz).trans (hX.mono (by omega)))) (by have := hX.size; omega) HYO.out HYM.out)
        have CV4 : Hid (W4.cell? ⟨vb, 3, none⟩ = some (.slice a k cap)) := Lib.hid (by rw [cell_of ((hB4.block _ hvlt).trans HVB.out)]; rfl)
        go_wp2_with fail
        rw [← HW4.out]
        obtain ⟨D, hD⟩ : ∃ D, D = W4.drew := ⟨_, rfl⟩
        have HBD := Lib.hid (show Below W4.heap.size W4 D from by rw [hD]; exact (Below.refl _ _).drew)
        have L22 := Lib.hid (load22 (below_cell HBD.out CV4.out))
        have L24 := Lib.hid (load24 ((HBD.out.block _ (heap_lt hb4)).trans hb4))
        clear hb4 hB4 hW4 e0 e1 e2 e3
        refine wp_region_noPanic ?_
        refine wp_region_any (by kernel_rfl) ?_
        change wpAny _ _ _ _ _ _ _ W4.drew
        rw [← hD]
        clear hD
        refine wpAny_take (i := 0) (oi := { dst := some 15, op := Op.fieldAddr 24 (Operand.tmp 3) 3, type := 0, pos := "law.go:132", after := #[], guard := none }) (v := .pointer (some ⟨vb, 3, none⟩)) rfl (by kernel_rfl) (by kernel_rfl) (by kernel_rfl) (fun c a w h => (h : False).elim) (Or.inl ⟨by rfl, ?_⟩) ?_
        · intro w
          go_simp
        (try simp only [Act.put, List.setIfInBounds_toArray, List.set_cons_zero, List.set_cons_succ])
        refine wpAny_ready (rs := [1, 2]) (by kernel_rfl) (by simp) ?_
        refine (AllReady.cons (o := { dst := some 16, op := Op.load 22 (Operand.tmp 15), type := 22, pos := "law.go:132", after := #[{ on := 0, ground := Ground.data }], guard := none }) rfl (fun K hK => ?_) (AllReady.cons (o := { dst := some 17, op := Op.load 24 (Operand.tmp 5), type := 24, pos := "law.go:132", after := #[], guard := none }) rfl (fun K hK => ?_) AllReady.nil))
        · refine step_load rfl 22 (.tmp 15) rfl _ _ (by rfl) L22.out ?_
          refine hK _ _ ?_
          clear hK K
          (try simp only [Act.put, List.setIfInBounds_toArray, List.set_cons_zero, List.set_cons_succ])
          refine wpAny_ready (rs := [2]) (by kernel_rfl) (by simp) ?_
          refine (AllReady.cons (o := { dst := some 17, op := Op.load 24 (Operand.tmp 5), type := 24, pos := "law.go:132", after := #[], guard := none }) rfl (fun K hK => ?_) AllReady.nil)
          refine step_load rfl 24 (.tmp 5) rfl _ _ (by rfl) L24.out ?_
          refine hK _ _ ?_
          clear hK K
          (try simp only [Act.put, List.setIfInBounds_toArray, List.set_cons_zero, List.set_cons_succ])
          refine wpAny_ready (rs := [3]) (by kernel_rfl) (by simp) ?_
          refine (AllReady.cons (o := { dst := some 18, op := Op.call { callee := Callee.value (Operand.func 20), args := #[Operand.tmp 17], argTypes := #[24] }, type := 24, pos := "law.go:132", after := #[{ on := 2, ground := Ground.data }], guard := none }) rfl (fun K hK => ?_) AllReady.nil)
          go_simp
          refine (HCALL.out D HBD.out).mono ?_
          rintro e w5 ⟨x, rfl, hx5, hwf5, hb5⟩
          obtain ⟨sl5, rfl, hsub5⟩ := hx5
          obtain ⟨a5, cap5, rfl⟩ := subP_slice hsub5
          have hN5 : Below W4.heap.size W4 w5 := HBD.out.trans (hb5.mono HBD.out.size)
          have hz5 : W4.heap.size ≤ w5.heap.size := hN5.size
          have hzD : W4.heap.size ≤ D.heap.size := HBD.out.size
          refine hK _ _ ?_
          clear hK K
          (try simp only [Act.put, List.setIfInBounds_toArray, List.set_cons_zero, List.set_cons_succ])
          refine wpAny_ready (rs := [4]) (by kernel_rfl) (by simp) ?_
          refine (AllReady.cons (o := { dst := some 19, op := Op.buildSlice 22 1 #[(0, Operand.tmp 18)], type := 22, pos := "law.go:132", after := #[{ on := 3, ground := Ground.data }], guard := none }) rfl (fun K hK => ?_) AllReady.nil)
          obtain ⟨W7, hW7⟩ : ∃ W7, W7 = w5.alloc (.cells #[.int .i64 y.k, .int .i64 y.n, .string y.s, .slice a5 y.ps.length cap5] 24) := ⟨_, rfl⟩
          have B24 := build24 w5 (.int .i64 y.k) (.int .i64 y.n) (.string y.s) (.slice a5 y.ps.length cap5)
          rw [← hW7] at B24
          have hN7 : Below W4.heap.size W4 W7 := by rw [hW7]; exact hN5.alloc hz5 _
          refine step_build rfl 22 1 (.tmp 18) rfl _ _ (by rfl) B24 ?_
          refine hK _ _ ?_
          clear hK K
          (try simp only [Act.put, List.setIfInBounds_toArray, List.set_cons_zero, List.set_cons_succ])
          have hs7 : W7.heap.size = w5.heap.size + 1 := by rw [hW7]; simp
          have hBW7 : Below wr.heap.size wr W7 := HB4.out.trans (hN7.mono (by omega))
          have HD7 := Lib.hid (HD.out.below hBW7)
          have hb7 : W7.heap[vb]? = some (.cells #[.int .i64 v.k, .int .i64 v.n, .string v.s, .slice a k cap] 24 (0, 0)) := (hBW7.block _ hvlt).trans HVB.out
          have hown7 := HD7.out.1.1
          rw [HDL.out] at hown7
          have hfree : ∀ j, D.heap.size ≤ j ∧ j < w5.heap.size → FreeB (vb + 1) W7.heap.size vb (.slice a k cap) j ∧ W7.heap[j]? = w5.heap[j]? := fun j hj => ⟨⟨by omega, by omega, fun e => by
            have h1 := (HD.out.1.1.lt j e).2
            omega, by omega⟩, by rw [hW7, heap_alloc_old _ _ hj.2]⟩
          have HSUB7 := Lib.hid (hsub5.move (Q := FreeB (vb + 1) W7.heap.size vb (.slice a k cap)) (w' := W7) (fun j hj => ⟨(hfree j hj).1, fun j' => World.cell?_of_block (a := ⟨j, j', none⟩) (hfree j hj).2⟩))
          have HWF7 := Lib.hid (hwf5.move (Q := FreeB (vb + 1) W7.heap.size vb (.slice a k cap)) (w' := W7) (fun j hj => hfree j hj))
          have hnews : ∀ (j : Nat) (u : Value), (cellsP (y, .slice a5 y.ps.length cap5))[j]? = some u → W7.cell? ((⟨w5.heap.size, 0, none⟩ : Addr).add j) = some u := fun j u hu => by
            rw [hW7]
            exact World.news_of_block (heap_alloc_new w5 (.cells #[.int .i64 y.k, .int .i64 y.n, .string y.s, .slice a5 y.ps.length cap5] 24)) j u (by simpa [cellsP] using hu)
          obtain ⟨i7, hi7, hz7, hs7', hy7⟩ := info24
          refine wpAny_ready (rs := [5]) (by kernel_rfl) (by simp) ?_
          refine (AllReady.cons (o := { dst := some 20, op := Op.call { callee := Callee.builtin Builtin.append, args := #[Operand.tmp 16, Operand.tmp 19], argTypes := #[22, 22] }, type := 22, pos := "law.go:132", after := #[{ on := 1, ground := Ground.data }, { on := 4, ground := Ground.data }, { on := 3, ground := Ground.chain }], guard := none }) rfl (fun K hK => ?_) AllReady.nil)
          refine step_append_lies _ (by rfl) (.tmp 16) (.tmp 19) 22 (by rfl) (vb + 1) 24 i7 _ 4 56 Tryz.underlying22 hi7 hz7 hs7' hy7 rfl (by omega) (.slice a k cap) k _ (by rfl) hown7 ⟨w5.heap.size, 0, none⟩ 1 1 (cellsP (y, .slice a5 y.ps.length cap5)) (by rfl) rfl hnews (by simp [cellsP, Value.oneCell']) (by omega) (by unfold maxLen; omega) (by omega) (by omega) _ rfl ?_
          intro g4 cap4 w8 hown8 hg8 hat8 hlt8
          refine hK _ _ ?_
          clear hK K
          (try simp only [Act.put, List.setIfInBounds_toArray, List.set_cons_zero, List.set_cons_succ])
          refine wpAny_take (i := 6) (oi := { dst := some 21, op := Op.fieldAddr 24 (Operand.tmp 3) 3, type := 0, pos := "law.go:132", after := #[{ on := 0, ground := Ground.phase }, { on := 1, ground := Ground.phase }, { on := 2, ground := Ground.phase }, { on := 3, ground := Ground.phase }, { on := 4, ground := Ground.phase }, { on := 5, ground := Ground.phase }], guard := none }) (v := .pointer (some ⟨vb, 3, none⟩)) rfl (by kernel_rfl) (by kernel_rfl) (by kernel_rfl) (fun c a w h => (h : False).elim) (Or.inl ⟨by rfl, ?_⟩) ?_
          · intro w
            go_simp
          (try simp only [Act.put, List.setIfInBounds_toArray, List.set_cons_zero, List.set_cons_succ])
          have hb8 : w8.heap[vb]? = some (.cells #[.int .i64 v.k, .int .i64 v.n, .string v.s, .slice a k cap] 24 (0, 0)) := ((hg8.block vb (by omega) (fun e => HD.out.1.2.1 e.symm)).trans hb7)
          have c8 : w8.cell? ⟨vb, 3, none⟩ = some (.slice a k cap) := by rw [cell_of hb8]; rfl
          have f8 := free_of (j := 3) hb8
          have Hb8 := Lib.hid hb8
          have HOWN8 := Lib.hid hown8
          have HG8 := Lib.hid hg8
          have HAT8 := Lib.hid hat8
          have HOWN7 := Lib.hid hown7
          have HBW7 := Lib.hid hBW7
          clear hb8 hown8 hg8 hat8 hown7 hnews hfree hb7 hBW7 hsub5 hwf5 hb5 B24 hN5 hN7 hW7
          refine wpAny_ready (rs := [7]) (by kernel_rfl) (by simp) ?_
          refine (AllReady.cons (o := { dst := none, op := Op.store 22 (Operand.tmp 21) (Operand.tmp 20), type := 0, pos := "law.go:132", after := #[{ on := 6, ground := Ground.data }, { on := 5, ground := Ground.data }, { on := 5, ground := Ground.chain }, { on := 0, ground := Ground.phase }, { on := 1, ground := Ground.phase }, { on := 2, ground := Ground.phase }, { on := 3, ground := Ground.phase }, { on := 4, ground := Ground.phase }, { on := 5, ground := Ground.phase }], guard := none }) rfl (fun K hK => ?_) AllReady.nil)
          go_simp
          refine hK _ _ ?_
          clear hK K
          (try simp only [Act.put, List.setIfInBounds_toArray, List.set_cons_zero, List.set_cons_succ])
          refine wpAny_done (by kernel_rfl) ?_ _
          refine NoPanic.normal ?_
          go_wp2_with fail
          go_roundw
          case rel =>
            refine ⟨k + 1, done ++ [(y, .slice a5 y.ps.length cap5)], .slice (some ⟨g4, 0, none⟩) (k + 1) cap4, by omega, by go_num, by simp [HDL.out], ?_, ?_, ?_, ?_⟩
            · rw [List.map_append, HDM.out, List.take_add_one, HY.out]; rfl
            · rw [set_block Hb8.out]; rfl
            · exact (HD7.out.push (p := (y, .slice a5 y.ps.length cap5)) (by omega) HSUB7.out HWF7.out (by rw [HDL.out]; exact HOWN8.out) HG8.out (sv' := .slice (some ⟨g4, 0, none⟩) (k + 1) cap4) (HAT8.out.imp (fun h => h.symm) (fun h => congrArg some h))).setCell _
            · refine Below.setCell (p := ⟨vb, 3, none⟩) (B := vb) ?_ (Nat.le_refl vb) _
              refine (HBR.out.trans (HBW7.out.mono (by omega))).trans ⟨HG8.out.os, HG8.out.tape, HG8.out.output, HG8.out.size, fun j hj => HG8.out.block j (by omega) (fun e => ?_)⟩
              have h1 := (HOWN7.out.lt j e.symm).1
              omega
          case measure => simp [intOf]; omega
        · refine step_load rfl 24 (.tmp 5) rfl _ _ (by rfl) L24.out ?_
          refine hK _ _ ?_
          clear hK K
          (try simp only [Act.put, List.setIfInBounds_toArray, List.set_cons_zero, List.set_cons_succ])
          refine wpAny_ready (rs := [1, 3]) (by kernel_rfl) (by simp) ?_
          refine (AllReady.cons (o := { dst := some 16, op := Op.load 22 (Operand.tmp 15), type := 22, pos := "law.go:132", after := #[{ on := 0, ground := Ground.data }], guard := none }) rfl (fun K hK => ?_) (AllReady.cons (o := { dst := some 18, op := Op.call { callee := Callee.value (Operand.func 20), args := #[Operand.tmp 17], argTypes := #[24] }, type := 24, pos := "law.go:132", after := #[{ on := 2, ground := Ground.data }], guard := none }) rfl (fun K hK => ?_) AllReady.nil))
          · refine step_load rfl 22 (.tmp 15) rfl _ _ (by rfl) L22.out ?_
            refine hK _ _ ?_
            clear hK K
            (try simp only [Act.put, List.setIfInBounds_toArray, List.set_cons_zero, List.set_cons_succ])
            refine wpAny_ready (rs := [3]) (by kernel_rfl) (by simp) ?_
            refine (AllReady.cons (o := { dst := some 18, op := Op.call { callee := Callee.value (Operand.func 20), args := #[Operand.tmp 17], argTypes := #[24] }, type := 24, pos := "law.go:132", after := #[{ on := 2, ground := Ground.data }], guard := none }) rfl (fun K hK => ?_) AllReady.nil)
            go_simp
            refine (HCALL.out D HBD.out).mono ?_
            rintro e w5 ⟨x, rfl, hx5, hwf5, hb5⟩
            obtain ⟨sl5, rfl, hsub5⟩ := hx5
            obtain ⟨a5, cap5, rfl⟩ := subP_slice hsub5
            have hN5 : Below W4.heap.size W4 w5 := HBD.out.trans (hb5.mono HBD.out.size)
            have hz5 : W4.heap.size ≤ w5.heap.size := hN5.size
            have hzD : W4.heap.size ≤ D.heap.size := HBD.out.size
            refine hK _ _ ?_
            clear hK K
            (try simp only [Act.put, List.setIfInBounds_toArray, List.set_cons_zero, List.set_cons_succ])
            refine wpAny_ready (rs := [4]) (by kernel_rfl) (by simp) ?_
            refine (AllReady.cons (o := { dst := some 19, op := Op.buildSlice 22 1 #[(0, Operand.tmp 18)], type := 22, pos := "law.go:132", after := #[{ on := 3, ground := Ground.data }], guard := none }) rfl (fun K hK => ?_) AllReady.nil)
            obtain ⟨W7, hW7⟩ : ∃ W7, W7 = w5.alloc (.cells #[.int .i64 y.k, .int .i64 y.n, .string y.s, .slice a5 y.ps.length cap5] 24) := ⟨_, rfl⟩
            have B24 := build24 w5 (.int .i64 y.k) (.int .i64 y.n) (.string y.s) (.slice a5 y.ps.length cap5)
            rw [← hW7] at B24
            have hN7 : Below W4.heap.size W4 W7 := by rw [hW7]; exact hN5.alloc hz5 _
            refine step_build rfl 22 1 (.tmp 18) rfl _ _ (by rfl) B24 ?_
            refine hK _ _ ?_
            clear hK K
            (try simp only [Act.put, List.setIfInBounds_toArray, List.set_cons_zero, List.set_cons_succ])
            have hs7 : W7.heap.size = w5.heap.size + 1 := by rw [hW7]; simp
            have hBW7 : Below wr.heap.size wr W7 := HB4.out.trans (hN7.mono (by omega))
            have HD7 := Lib.hid (HD.out.below hBW7)
            have hb7 : W7.heap[vb]? = some (.cells #[.int .i64 v.k, .int .i64 v.n, .string v.s, .slice a k cap] 24 (0, 0)) := (hBW7.block _ hvlt).trans HVB.out
            have hown7 := HD7.out.1.1
            rw [HDL.out] at hown7
            have hfree : ∀ j, D.heap.size ≤ j ∧ j < w5.heap.size → FreeB (vb + 1) W7.heap.size vb (.slice a k cap) j ∧ W7.heap[j]? = w5.heap[j]? := fun j hj => ⟨⟨by omega, by omega, fun e => by
              have h1 := (HD.out.1.1.lt j e).2
              omega, by omega⟩, by rw [hW7, heap_alloc_old _ _ hj.2]⟩
            have HSUB7 := Lib.hid (hsub5.move (Q := FreeB (vb + 1) W7.heap.size vb (.slice a k cap)) (w' := W7) (fun j hj => ⟨(hfree j hj).1, fun j' => World.cell?_of_block (a := ⟨j, j', none⟩) (hfree j hj).2⟩))
            have HWF7 := Lib.hid (hwf5.move (Q := FreeB (vb + 1) W7.heap.size vb (.slice a k cap)) (w' := W7) (fun j hj => hfree j hj))
            have hnews : ∀ (j : Nat) (u : Value), (cellsP (y, .slice a5 y.ps.length cap5))[j]? = some u → W7.cell? ((⟨w5.heap.size, 0, none⟩ : Addr).add j) = some u := fun j u hu => by
              rw [hW7]
              exact World.news_of_block (heap_alloc_new w5 (.cells #[.int .i64 y.k, .int .i64 y.n, .string y.s, .slice a5 y.ps.length cap5] 24)) j u (by simpa [cellsP] using hu)
            obtain ⟨i7, hi7, hz7, hs7', hy7⟩ := info24
            refine wpAny_ready (rs := [5]) (by kernel_rfl) (by simp) ?_
            refine (AllReady.cons (o := { dst := some 20, op := Op.call { callee := Callee.builtin Builtin.append, args := #[Operand.tmp 16, Operand.tmp 19], argTypes := #[22, 22] }, type := 22, pos := "law.go:132", after := #[{ on := 1, ground := Ground.data }, { on := 4, ground := Ground.data }, { on := 3, ground := Ground.chain }], guard := none }) rfl (fun K hK => ?_) AllReady.nil)
            refine step_append_lies _ (by rfl) (.tmp 16) (.tmp 19) 22 (by rfl) (vb + 1) 24 i7 _ 4 56 Tryz.underlying22 hi7 hz7 hs7' hy7 rfl (by omega) (.slice a k cap) k _ (by rfl) hown7 ⟨w5.heap.size, 0, none⟩ 1 1 (cellsP (y, .slice a5 y.ps.length cap5)) (by rfl) rfl hnews (by simp [cellsP, Value.oneCell']) (by omega) (by unfold maxLen; omega) (by omega) (by omega) _ rfl ?_
            intro g4 cap4 w8 hown8 hg8 hat8 hlt8
            refine hK _ _ ?_
            clear hK K
            (try simp only [Act.put, List.setIfInBounds_toArray, List.set_cons_zero, List.set_cons_succ])
            refine wpAny_take (i := 6) (oi := { dst := some 21, op := Op.fieldAddr 24 (Operand.tmp 3) 3, type := 0, pos := "law.go:132", after := #[{ on := 0, ground := Ground.phase }, { on := 1, ground := Ground.phase }, { on := 2, ground := Ground.phase }, { on := 3, ground := Ground.phase }, { on := 4, ground := Ground.phase }, { on := 5, ground := Ground.phase }], guard := none }) (v := .pointer (some ⟨vb, 3, none⟩)) rfl (by kernel_rfl) (by kernel_rfl) (by kernel_rfl) (fun c a w h => (h : False).elim) (Or.inl ⟨by rfl, ?_⟩) ?_
            · intro w
              go_simp
            (try simp only [Act.put, List.setIfInBounds_toArray, List.set_cons_zero, List.set_cons_succ])
            have hb8 : w8.heap[vb]? = some (.cells #[.int .i64 v.k, .int .i64 v.n, .string v.s, .slice a k cap] 24 (0, 0)) := ((hg8.block vb (by omega) (fun e => HD.out.1.2.1 e.symm)).trans hb7)
            have c8 : w8.cell? ⟨vb, 3, none⟩ = some (.slice a k cap) := by rw [cell_of hb8]; rfl
            have f8 := free_of (j := 3) hb8
            have Hb8 := Lib.hid hb8
            have HOWN8 := Lib.hid hown8
            have HG8 := Lib.hid hg8
            have HAT8 := Lib.hid hat8
            have HOWN7 := Lib.hid hown7
            have HBW7 := Lib.hid hBW7
            clear hb8 hown8 hg8 hat8 hown7 hnews hfree hb7 hBW7 hsub5 hwf5 hb5 B24 hN5 hN7 hW7
            refine wpAny_ready (rs := [7]) (by kernel_rfl) (by simp) ?_
            refine (AllReady.cons (o := { dst := none, op := Op.store 22 (Operand.tmp 21) (Operand.tmp 20), type := 0, pos := "law.go:132", after := #[{ on := 6, ground := Ground.data }, { on := 5, ground := Ground.data }, { on := 5, ground := Ground.chain }, { on := 0, ground := Ground.phase }, { on := 1, ground := Ground.phase }, { on := 2, ground := Ground.phase }, { on := 3, ground := Ground.phase }, { on := 4, ground := Ground.phase }, { on := 5, ground := Ground.phase }], guard := none }) rfl (fun K hK => ?_) AllReady.nil)
            go_simp
            refine hK _ _ ?_
            clear hK K
            (try simp only [Act.put, List.setIfInBounds_toArray, List.set_cons_zero, List.set_cons_succ])
            refine wpAny_done (by kernel_rfl) ?_ _
            refine NoPanic.normal ?_
            go_wp2_with fail
            go_roundw
            case rel =>
              refine ⟨k + 1, done ++ [(y, .slice a5 y.ps.length cap5)], .slice (some ⟨g4, 0, none⟩) (k + 1) cap4, by omega, by go_num, by simp [HDL.out], ?_, ?_, ?_, ?_⟩
              · rw [List.map_append, HDM.out, List.take_add_one, HY.out]; rfl
              · rw [set_block Hb8.out]; rfl
              · exact (HD7.out.push (p := (y, .slice a5 y.ps.length cap5)) (by omega) HSUB7.out HWF7.out (by rw [HDL.out]; exact HOWN8.out) HG8.out (sv' := .slice (some ⟨g4, 0, none⟩) (k + 1) cap4) (HAT8.out.imp (fun h => h.symm) (fun h => congrArg some h))).setCell _
              · refine Below.setCell (p := ⟨vb, 3, none⟩) (B := vb) ?_ (Nat.le_refl vb) _
                refine (HBR.out.trans (HBW7.out.mono (by omega))).trans ⟨HG8.out.os, HG8.out.tape, HG8.out.output, HG8.out.size, fun j hj => HG8.out.block j (by omega) (fun e => ?_)⟩
                have h1 := (HOWN7.out.lt j e.symm).1
                omega
            case measure => simp [intOf]; omega
          · go_simp
            refine (HCALL.out D HBD.out).mono ?_
            rintro e w5 ⟨x, rfl, hx5, hwf5, hb5⟩
            obtain ⟨sl5, rfl, hsub5⟩ := hx5
            obtain ⟨a5, cap5, rfl⟩ := subP_slice hsub5
            have hN5 : Below W4.heap.size W4 w5 := HBD.out.trans (hb5.mono HBD.out.size)
            have hz5 : W4.heap.size ≤ w5.heap.size := hN5.size
            have hzD : W4.heap.size ≤ D.heap.size := HBD.out.size
            refine hK _ _ ?_
            clear hK K
            (try simp only [Act.put, List.setIfInBounds_toArray, List.set_cons_zero, List.set_cons_succ])
            refine wpAny_ready (rs := [1, 4]) (by kernel_rfl) (by simp) ?_
            refine (AllReady.cons (o := { dst := some 16, op := Op.load 22 (Operand.tmp 15), type := 22, pos := "law.go:132", after := #[{ on := 0, ground := Ground.data }], guard := none }) rfl (fun K hK => ?_) (AllReady.cons (o := { dst := some 19, op := Op.buildSlice 22 1 #[(0, Operand.tmp 18)], type := 22, pos := "law.go:132", after := #[{ on := 3, ground := Ground.data }], guard := none }) rfl (fun K hK => ?_) AllReady.nil))
            · refine step_load rfl 22 (.tmp 15) rfl _ _ (by rfl) (load22 (below_cell hN5 CV4.out)) ?_
              refine hK _ _ ?_
              clear hK K
              (try simp only [Act.put, List.setIfInBounds_toArray, List.set_cons_zero, List.set_cons_succ])
              refine wpAny_ready (rs := [4]) (by kernel_rfl) (by simp) ?_
              refine (AllReady.cons (o := { dst := some 19, op := Op.buildSlice 22 1 #[(0, Operand.tmp 18)], type := 22, pos := "law.go:132", after := #[{ on := 3, ground := Ground.data }], guard := none }) rfl (fun K hK => ?_) AllReady.nil)
              obtain ⟨W7, hW7⟩ : ∃ W7, W7 = w5.alloc (.cells #[.int .i64 y.k, .int .i64 y.n, .string y.s, .slice a5 y.ps.length cap5] 24) := ⟨_, rfl⟩
              have B24 := build24 w5 (.int .i64 y.k) (.int .i64 y.n) (.string y.s) (.slice a5 y.ps.length cap5)
              rw [← hW7] at B24
              have hN7 : Below W4.heap.size W4 W7 := by rw [hW7]; exact hN5.alloc hz5 _
              refine step_build rfl 22 1 (.tmp 18) rfl _ _ (by rfl) B24 ?_
              refine hK _ _ ?_
              clear hK K
              (try simp only [Act.put, List.setIfInBounds_toArray, List.set_cons_zero, List.set_cons_succ])
              have hs7 : W7.heap.size = w5.heap.size + 1 := by rw [hW7]; simp
              have hBW7 : Below wr.heap.size wr W7 := HB4.out.trans (hN7.mono (by omega))
              have HD7 := Lib.hid (HD.out.below hBW7)
              have hb7 : W7.heap[vb]? = some (.cells #[.int .i64 v.k, .int .i64 v.n, .string v.s, .slice a k cap] 24 (0, 0)) := (hBW7.block _ hvlt).trans HVB.out
              have hown7 := HD7.out.1.1
              rw [HDL.out] at hown7
              have hfree : ∀ j, D.heap.size ≤ j ∧ j < w5.heap.size → FreeB (vb + 1) W7.heap.size vb (.slice a k cap) j ∧ W7.heap[j]? = w5.heap[j]? := fun j hj => ⟨⟨by omega, by omega, fun e => by
                have h1 := (HD.out.1.1.lt j e).2
                omega, by omega⟩, by rw [hW7, heap_alloc_old _ _ hj.2]⟩
              have HSUB7 := Lib.hid (hsub5.move (Q := FreeB (vb + 1) W7.heap.size vb (.slice a k cap)) (w' := W7) (fun j hj => ⟨(hfree j hj).1, fun j' => World.cell?_of_block (a := ⟨j, j', none⟩) (hfree j hj).2⟩))
              have HWF7 := Lib.hid (hwf5.move (Q := FreeB (vb + 1) W7.heap.size vb (.slice a k cap)) (w' := W7) (fun j hj => hfree j hj))
              have hnews : ∀ (j : Nat) (u : Value), (cellsP (y, .slice a5 y.ps.length cap5))[j]? = some u → W7.cell? ((⟨w5.heap.size, 0, none⟩ : Addr).add j) = some u := fun j u hu => by
                rw [hW7]
                exact World.news_of_block (heap_alloc_new w5 (.cells #[.int .i64 y.k, .int .i64 y.n, .string y.s, .slice a5 y.ps.length cap5] 24)) j u (by simpa [cellsP] using hu)
              obtain ⟨i7, hi7, hz7, hs7', hy7⟩ := info24
              refine wpAny_ready (rs := [5]) (by kernel_rfl) (by simp) ?_
              refine (AllReady.cons (o := { dst := some 20, op := Op.call { callee := Callee.builtin Builtin.append, args := #[Operand.tmp 16, Operand.tmp 19], argTypes := #[22, 22] }, type := 22, pos := "law.go:132", after := #[{ on := 1, ground := Ground.data }, { on := 4, ground := Ground.data }, { on := 3, ground := Ground.chain }], guard := none }) rfl (fun K hK => ?_) AllReady.nil)
              refine step_append_lies _ (by rfl) (.tmp 16) (.tmp 19) 22 (by rfl) (vb + 1) 24 i7 _ 4 56 Tryz.underlying22 hi7 hz7 hs7' hy7 rfl (by omega) (.slice a k cap) k _ (by rfl) hown7 ⟨w5.heap.size, 0, none⟩ 1 1 (cellsP (y, .slice a5 y.ps.length cap5)) (by rfl) rfl hnews (by simp [cellsP, Value.oneCell']) (by omega) (by unfold maxLen; omega) (by omega) (by omega) _ rfl ?_
              intro g4 cap4 w8 hown8 hg8 hat8 hlt8
              refine hK _ _ ?_
              clear hK K
              (try simp only [Act.put, List.setIfInBounds_toArray, List.set_cons_zero, List.set_cons_succ])
              refine wpAny_take (i := 6) (oi := { dst := some 21, op := Op.fieldAddr 24 (Operand.tmp 3) 3, type := 0, pos := "law.go:132", after := #[{ on := 0, ground := Ground.phase }, { on := 1, ground := Ground.phase }, { on := 2, ground := Ground.phase }, { on := 3, ground := Ground.phase }, { on := 4, ground := Ground.phase }, { on := 5, ground := Ground.phase }], guard := none }) (v := .pointer (some ⟨vb, 3, none⟩)) rfl (by kernel_rfl) (by kernel_rfl) (by kernel_rfl) (fun c a w h => (h : False).elim) (Or.inl ⟨by rfl, ?_⟩) ?_
              · intro w
                go_simp
              (try simp only [Act.put, List.setIfInBounds_toArray, List.set_cons_zero, List.set_cons_succ])
              have hb8 : w8.heap[vb]? = some (.cells #[.int .i64 v.k, .int .i64 v.n, .string v.s, .slice a k cap] 24 (0, 0)) := ((hg8.block vb (by omega) (fun e => HD.out.1.2.1 e.symm)).trans hb7)
              have c8 : w8.cell? ⟨vb, 3, none⟩ = some (.slice a k cap) := by rw [cell_of hb8]; rfl
              have f8 := free_of (j := 3) hb8
              have Hb8 := Lib.hid hb8
              have HOWN8 := Lib.hid hown8
              have HG8 := Lib.hid hg8
              have HAT8 := Lib.hid hat8
              have HOWN7 := Lib.hid hown7
              have HBW7 := Lib.hid hBW7
              clear hb8 hown8 hg8 hat8 hown7 hnews hfree hb7 hBW7 hsub5 hwf5 hb5 B24 hN5 hN7 hW7
              refine wpAny_ready (rs := [7]) (by kernel_rfl) (by simp) ?_
              refine (AllReady.cons (o := { dst := none, op := Op.store 22 (Operand.tmp 21) (Operand.tmp 20), type := 0, pos := "law.go:132", after := #[{ on := 6, ground := Ground.data }, { on := 5, ground := Ground.data }, { on := 5, ground := Ground.chain }, { on := 0, ground := Ground.phase }, { on := 1, ground := Ground.phase }, { on := 2, ground := Ground.phase }, { on := 3, ground := Ground.phase }, { on := 4, ground := Ground.phase }, { on := 5, ground := Ground.phase }], guard := none }) rfl (fun K hK => ?_) AllReady.nil)
              go_simp
              refine hK _ _ ?_
              clear hK K
              (try simp only [Act.put, List.setIfInBounds_toArray, List.set_cons_zero, List.set_cons_succ])
              refine wpAny_done (by kernel_rfl) ?_ _
              refine NoPanic.normal ?_
              go_wp2_with fail
              go_roundw
              case rel =>
                refine ⟨k + 1, done ++ [(y, .slice a5 y.ps.length cap5)], .slice (some ⟨g4, 0, none⟩) (k + 1) cap4, by omega, by go_num, by simp [HDL.out], ?_, ?_, ?_, ?_⟩
                · rw [List.map_append, HDM.out, List.take_add_one, HY.out]; rfl
                · rw [set_block Hb8.out]; rfl
                · exact (HD7.out.push (p := (y, .slice a5 y.ps.length cap5)) (by omega) HSUB7.out HWF7.out (by rw [HDL.out]; exact HOWN8.out) HG8.out (sv' := .slice (some ⟨g4, 0, none⟩) (k + 1) cap4) (HAT8.out.imp (fun h => h.symm) (fun h => congrArg some h))).setCell _
                · refine Below.setCell (p := ⟨vb, 3, none⟩) (B := vb) ?_ (Nat.le_refl vb) _
                  refine (HBR.out.trans (HBW7.out.mono (by omega))).trans ⟨HG8.out.os, HG8.out.tape, HG8.out.output, HG8.out.size, fun j hj => HG8.out.block j (by omega) (fun e => ?_)⟩
                  have h1 := (HOWN7.out.lt j e.symm).1
                  omega
              case measure => simp [intOf]; omega
            · obtain ⟨W7, hW7⟩ : ∃ W7, W7 = w5.alloc (.cells #[.int .i64 y.k, .int .i64 y.n, .string y.s, .slice a5 y.ps.length cap5] 24) := ⟨_, rfl⟩
              have B24 := build24 w5 (.int .i64 y.k) (.int .i64 y.n) (.string y.s) (.slice a5 y.ps.length cap5)
              rw [← hW7] at B24
              have hN7 : Below W4.heap.size W4 W7 := by rw [hW7]; exact hN5.alloc hz5 _
              refine step_build rfl 22 1 (.tmp 18) rfl _ _ (by rfl) B24 ?_
              refine hK _ _ ?_
              clear hK K
              (try simp only [Act.put, List.setIfInBounds_toArray, List.set_cons_zero, List.set_cons_succ])
              refine wpAny_ready (rs := [1]) (by kernel_rfl) (by simp) ?_
              refine (AllReady.cons (o := { dst := some 16, op := Op.load 22 (Operand.tmp 15), type := 22, pos := "law.go:132", after := #[{ on := 0, ground := Ground.data }], guard := none }) rfl (fun K hK => ?_) AllReady.nil)
              refine step_load rfl 22 (.tmp 15) rfl _ _ (by rfl) (load22 (below_cell hN7 CV4.out)) ?_
              refine hK _ _ ?_
              clear hK K
              (try simp only [Act.put, List.setIfInBounds_toArray, List.set_cons_zero, List.set_cons_succ])
              have hs7 : W7.heap.size = w5.heap.size + 1 := by rw [hW7]; simp
              have hBW7 : Below wr.heap.size wr W7 := HB4.out.trans (hN7.mono (by omega))
              have HD7 := Lib.hid (HD.out.below hBW7)
              have hb7 : W7.heap[vb]? = some (.cells #[.int .i64 v.k, .int .i64 v.n, .string v.s, .slice a k cap] 24 (0, 0)) := (hBW7.block _ hvlt).trans HVB.out
              have hown7 := HD7.out.1.1
              rw [HDL.out] at hown7
              have hfree : ∀ j, D.heap.size ≤ j ∧ j < w5.heap.size → FreeB (vb + 1) W7.heap.size vb (.slice a k cap) j ∧ W7.heap[j]? = w5.heap[j]? := fun j hj => ⟨⟨by omega, by omega, fun e => by
                have h1 := (HD.out.1.1.lt j e).2
                omega, by omega⟩, by rw [hW7, heap_alloc_old _ _ hj.2]⟩
              have HSUB7 := Lib.hid (hsub5.move (Q := FreeB (vb + 1) W7.heap.size vb (.slice a k cap)) (w' := W7) (fun j hj => ⟨(hfree j hj).1, fun j' => World.cell?_of_block (a := ⟨j, j', none⟩) (hfree j hj).2⟩))
              have HWF7 := Lib.hid (hwf5.move (Q := FreeB (vb + 1) W7.heap.size vb (.slice a k cap)) (w' := W7) (fun j hj => hfree j hj))
              have hnews : ∀ (j : Nat) (u : Value), (cellsP (y, .slice a5 y.ps.length cap5))[j]? = some u → W7.cell? ((⟨w5.heap.size, 0, none⟩ : Addr).add j) = some u := fun j u hu => by
                rw [hW7]
                exact World.news_of_block (heap_alloc_new w5 (.cells #[.int .i64 y.k, .int .i64 y.n, .string y.s, .slice a5 y.ps.length cap5] 24)) j u (by simpa [cellsP] using hu)
              obtain ⟨i7, hi7, hz7, hs7', hy7⟩ := info24
              refine wpAny_ready (rs := [5]) (by kernel_rfl) (by simp) ?_
              refine (AllReady.cons (o := { dst := some 20, op := Op.call { callee := Callee.builtin Builtin.append, args := #[Operand.tmp 16, Operand.tmp 19], argTypes := #[22, 22] }, type := 22, pos := "law.go:132", after := #[{ on := 1, ground := Ground.data }, { on := 4, ground := Ground.data }, { on := 3, ground := Ground.chain }], guard := none }) rfl (fun K hK => ?_) AllReady.nil)
              refine step_append_lies _ (by rfl) (.tmp 16) (.tmp 19) 22 (by rfl) (vb + 1) 24 i7 _ 4 56 Tryz.underlying22 hi7 hz7 hs7' hy7 rfl (by omega) (.slice a k cap) k _ (by rfl) hown7 ⟨w5.heap.size, 0, none⟩ 1 1 (cellsP (y, .slice a5 y.ps.length cap5)) (by rfl) rfl hnews (by simp [cellsP, Value.oneCell']) (by omega) (by unfold maxLen; omega) (by omega) (by omega) _ rfl ?_
              intro g4 cap4 w8 hown8 hg8 hat8 hlt8
              refine hK _ _ ?_
              clear hK K
              (try simp only [Act.put, List.setIfInBounds_toArray, List.set_cons_zero, List.set_cons_succ])
              refine wpAny_take (i := 6) (oi := { dst := some 21, op := Op.fieldAddr 24 (Operand.tmp 3) 3, type := 0, pos := "law.go:132", after := #[{ on := 0, ground := Ground.phase }, { on := 1, ground := Ground.phase }, { on := 2, ground := Ground.phase }, { on := 3, ground := Ground.phase }, { on := 4, ground := Ground.phase }, { on := 5, ground := Ground.phase }], guard := none }) (v := .pointer (some ⟨vb, 3, none⟩)) rfl (by kernel_rfl) (by kernel_rfl) (by kernel_rfl) (fun c a w h => (h : False).elim) (Or.inl ⟨by rfl, ?_⟩) ?_
              · intro w
                go_simp
              (try simp only [Act.put, List.setIfInBounds_toArray, List.set_cons_zero, List.set_cons_succ])
              have hb8 : w8.heap[vb]? = some (.cells #[.int .i64 v.k, .int .i64 v.n, .string v.s, .slice a k cap] 24 (0, 0)) := ((hg8.block vb (by omega) (fun e => HD.out.1.2.1 e.symm)).trans hb7)
              have c8 : w8.cell? ⟨vb, 3, none⟩ = some (.slice a k cap) := by rw [cell_of hb8]; rfl
              have f8 := free_of (j := 3) hb8
              have Hb8 := Lib.hid hb8
              have HOWN8 := Lib.hid hown8
              have HG8 := Lib.hid hg8
              have HAT8 := Lib.hid hat8
              have HOWN7 := Lib.hid hown7
              have HBW7 := Lib.hid hBW7
              clear hb8 hown8 hg8 hat8 hown7 hnews hfree hb7 hBW7 hsub5 hwf5 hb5 B24 hN5 hN7 hW7
              refine wpAny_ready (rs := [7]) (by kernel_rfl) (by simp) ?_
              refine (AllReady.cons (o := { dst := none, op := Op.store 22 (Operand.tmp 21) (Operand.tmp 20), type := 0, pos := "law.go:132", after := #[{ on := 6, ground := Ground.data }, { on := 5, ground := Ground.data }, { on := 5, ground := Ground.chain }, { on := 0, ground := Ground.phase }, { on := 1, ground := Ground.phase }, { on := 2, ground := Ground.phase }, { on := 3, ground := Ground.phase }, { on := 4, ground := Ground.phase }, { on := 5, ground := Ground.phase }], guard := none }) rfl (fun K hK => ?_) AllReady.nil)
              go_simp
              refine hK _ _ ?_
              clear hK K
              (try simp only [Act.put, List.setIfInBounds_toArray, List.set_cons_zero, List.set_cons_succ])
              refine wpAny_done (by kernel_rfl) ?_ _
              refine NoPanic.normal ?_
              go_wp2_with fail
              go_roundw
              case rel =>
                refine ⟨k + 1, done ++ [(y, .slice a5 y.ps.length cap5)], .slice (some ⟨g4, 0, none⟩) (k + 1) cap4, by omega, by go_num, by simp [HDL.out], ?_, ?_, ?_, ?_⟩
                · rw [List.map_append, HDM.out, List.take_add_one, HY.out]; rfl
                · rw [set_block Hb8.out]; rfl
                · exact (HD7.out.push (p := (y, .slice a5 y.ps.length cap5)) (by omega) HSUB7.out HWF7.out (by rw [HDL.out]; exact HOWN8.out) HG8.out (sv' := .slice (some ⟨g4, 0, none⟩) (k + 1) cap4) (HAT8.out.imp (fun h => h.symm) (fun h => congrArg some h))).setCell _
                · refine Below.setCell (p := ⟨vb, 3, none⟩) (B := vb) ?_ (Nat.le_refl vb) _
                  refine (HBR.out.trans (HBW7.out.mono (by omega))).trans ⟨HG8.out.os, HG8.out.tape, HG8.out.output, HG8.out.size, fun j hj => HG8.out.block j (by omega) (fun e => ?_)⟩
                  have h1 := (HOWN7.out.lt j e.symm).1
                  omega
              case measure => simp [intOf]; omega
      · obtain rfl : k = v.ps.length := by omega
        have hlt1 : w.heap.size + 1 < vb := by omega
        have hr0 : wr.heap[w.heap.size + 1]? = some (.cells #[.int .i64 0, .int .i64 0, .string ⟨#[]⟩, .slice none 0 0] 24 (0, 0)) := (HBR.out.block _ hlt1).trans Hb1.out
        obtain ⟨c0, c1, c2, c3⟩ := block4 HVB.out
        obtain ⟨d0, d1, d2, d3⟩ := block4 hr0
        have f0 := free_of (j := 0) hr0
        have f1 := free_of (j := 1) hr0
        have f2 := free_of (j := 2) hr0
        have f3 := free_of (j := 3) hr0
        have Hr0 := Lib.hid hr0
        clear hr0
        go_wp2_with fail
        (try simp only [Exit.inBlock, Exit.then])
        have hb9 := set_all4 Hr0.out (.int .i64 v.k) (.int .i64 v.n) (.string v.s) (.slice a v.ps.length cap)
        refine bodyPost_ret (results_cell1 rfl _ _ (w.heap.size + 1) 24 #[.int .i64 v.k, .int .i64 v.n, .string v.s, .slice a v.ps.length cap] (0, 0) _ rfl hb9 Tryz.underlying24 rfl size24) rfl ?_
        have hD := HD.out.1.isVP v.k v.n v.s
        have hDW := HD.out.wf v.k v.n v.s (by have := HDL.out; omega)
        rw [HDM.out, List.take_of_length_le (Nat.le_refl _), show V.mk v.k v.n v.s v.ps = v from by cases v; rfl] at hD
        refine ⟨_, rfl, hD.move (fun j hj => ⟨⟨by have h1 := hj.1; omega, by simpa [World.setCell] using hj.2⟩, fun j' => World.cell?_of_block (a := ⟨j, j', none⟩) ?_⟩), hDW.move (fun j hj => ⟨⟨by have h1 := hj.1; omega, by simpa [World.setCell] using hj.2⟩, ?_⟩), ?_⟩
        · have h1 : vb + 1 ≤ j := hj.1
          rw [Below.heap_setCell _ _ _ _ (show j ≠ w.heap.size + 1 by omega), Below.heap_setCell _ _ _ _ (show j ≠ w.heap.size + 1 by omega), Below.heap_setCell _ _ _ _ (show j ≠ w.heap.size + 1 by omega), Below.heap_setCell _ _ _ _ (show j ≠ w.heap.size + 1 by omega)]
        · have h1 : vb + 1 ≤ j := hj.1
          rw [Below.heap_setCell _ _ _ _ (show j ≠ w.heap.size + 1 by omega), Below.heap_setCell _ _ _ _ (show j ≠ w.heap.size + 1 by omega), Below.heap_setCell _ _ _ _ (show j ≠ w.heap.size + 1 by omega), Below.heap_setCell _ _ _ _ (show j ≠ w.heap.size + 1 by omega)]
        · have h1 : Below w.heap.size w wr := HB0.out.trans (HBR.out.mono (by omega))
          exact (((h1.setCell (p := ⟨w.heap.size + 1, 0, none⟩) (Nat.le_succ _) _).setCell (p := ⟨w.heap.size + 1, 1, none⟩) (Nat.le_succ _) _).setCell (p := ⟨w.heap.size + 1, 2, none⟩) (Nat.le_succ _) _).setCell (p := ⟨w.heap.size + 1, 3, none⟩) (Nat.le_succ _) _

/-- both stores, and blocks K that stand as they stood in w1 and are neither's -/
def TwoF (w0 : World) (K : Nat → Prop) (w1 w : World) (b : Nat) (st : St) (rs : RS) : Prop := ∃ rb nb r2 c2, Stor w w0.heap.size st rb nb ∧ RStor w0.heap.size w b rs r2 c2 ∧ (∀ k, RF b r2 c2 k → ¬ SFoot w0.heap.size rb nb k) ∧ Below w0.heap.size w0 w ∧ w1.heap.size ≤ w.heap.size ∧
  ∀ k, K k → k < w1.heap.size ∧ w.heap[k]? = w1.heap[k]? ∧ ¬ SFoot w0.heap.size rb nb k ∧ ¬ RF b r2 c2 k
theorem TwoF.toN {w0 w w1 : World} {K : Nat → Prop} {b : Nat} {st : St} {rs : RS} (h : TwoF w0 K w1 w b st rs) : TwoN w0 w b st rs := by
  obtain ⟨rb, nb, r2, c2, h1, h2, h3, h4, _⟩ := h
  exact ⟨rb, nb, r2, c2, h1, h2, h3, h4⟩
theorem TwoF.at {w0 w w1 : World} {K : Nat → Prop} {b : Nat} {st : St} {rs : RS} (h : TwoF w0 K w1 w b st rs) {k : Nat} (hk : K k) : w.heap[k]? = w1.heap[k]? := by
  obtain ⟨rb, nb, r2, c2, _, _, _, _, _, h6⟩ := h
  exact (h6 k hk).2.1
theorem TwoF.size {w0 w w1 : World} {K : Nat → Prop} {b : Nat} {st : St} {rs : RS} (h : TwoF w0 K w1 w b st rs) : w1.heap.size ≤ w.heap.size := by
  obtain ⟨rb, nb, r2, c2, _, _, _, _, h5, _⟩ := h
  exact h5
theorem TwoN.freeze {w0 wr w1 : World} {b : Nat} {st : St} {rs : RS} (h : TwoN w0 wr b st rs) (hb : Below wr.heap.size wr w1) : TwoF w0 (fun k => wr.heap.size ≤ k ∧ k < w1.heap.size) w1 w1 b st rs := by
  obtain ⟨rb, nb, r2, c2, h1, h2, h3, h4⟩ := h
  exact ⟨rb, nb, r2, c2, stor_new h1 hb, h2.new hb, h3, h4.trans (hb.mono h4.size), Nat.le_refl _, fun k hk => ⟨hk.2, rfl, h1.apart hk.1, h2.apart hk.1⟩⟩
theorem f_put (v : V) (x : Value) (w0 w w1 : World) (K P : Nat → Prop) (b : Nat) (st : St) (rs : RS) (h : TwoF w0 K w1 w b st rs) (hPK : ∀ k, P k → K k) (hx : IsVP P w1 v x) (hok : v.Ok) (hr : rightV v = true) :
    Calls Tryz.prog 21 #[.pointer (some ⟨w0.heap.size + 3, 0, none⟩), x] w fun e w' => e = .returned (.tuple #[.int .i64 (putV v st).1, .int .i64 (putV v st).2.1]) ∧ TwoF w0 K w1 w' b (putV v st).2.2 rs := by
  obtain ⟨rb, nb, r2, c2, h1, h2, h3, h4, h5, h6⟩ := id h
  have hrr := h2.rows
  refine (sput_any v x w0.heap.size P st rb nb w h1 (hx.blocks (fun k hk => (h6 k (hPK k hk)).2.1)) (fun k hk => ⟨by have := (h6 k (hPK k hk)).1; omega, (h6 k (hPK k hk)).2.2.1⟩) hok hr).mono ?_
  rintro e w' ⟨he, rb', nb', a1, a2, a3, a4⟩
  refine ⟨he, rb', nb', r2, c2, a1, ?_, fun k hk hs => ?_, h4.trans (h1.below a4 (Nat.le_refl _)), Nat.le_trans h5 a4.size, fun k hk => ?_⟩
  · obtain ⟨C, tv, cv, hC, hs⟩ := h2
    exact ⟨C, tv, cv, hC, hs.kept a4 (fun k hk => h3 k hk) (fun k hk => ((Far.low h1 (Nat.le_refl _)) k hk).2)⟩
  · rcases foot_later a2 a3 hs with h | h
    · exact h3 k hk h
    · rcases hk with e | e | e
      · omega
      · have := hrr.1 k e; omega
      · have := hrr.2.1 k e; omega
  · obtain ⟨b1, b2, b3, b4⟩ := h6 k hk
    refine ⟨b1, (a4.block k (by omega) b3).trans b2, fun hs => ?_, b4⟩
    rcases foot_later a2 a3 hs with h | h
    · exact b3 h
    · omega
theorem f_rput (v : V) (x : Value) (w0 w w1 : World) (K : Nat → Prop) (b : Nat) (st : St) (rs : RS) (h : TwoF w0 K w1 w b st rs) (hx : IsVP (fun k => k < w0.heap.size) w0 v x) (hok : v.Ok) (hr : rightV v = true) :
    Calls Tryz.prog 22 #[.pointer (some ⟨b, 0, none⟩), x] w fun e w' => e = .returned (.tuple #[.int .i64 (rputV v rs).1, .int .i64 (rputV v rs).2.1]) ∧ TwoF w0 K w1 w' b st (rputV v rs).2.2 := by
  obtain ⟨rb, nb, r2, c2, h1, h2, h3, h4, h5, h6⟩ := id h
  have hrr := h1.rows
  refine (rsput_any w0.heap.size b v x rs r2 c2 w h2 (at_w hx h4) hok hr).mono ?_
  rintro e w' ⟨he, r2', c2', a1, a2, a3, a4⟩
  refine ⟨he, rb, nb, r2', c2', h1.kept a4 (fun k hk hs => h3 k hs hk), a1, fun k hk hs => ?_, h4.trans (h2.below a4 h2.rows.2.2.2), Nat.le_trans h5 a4.size, fun k hk => ?_⟩
  · rcases rfoot_later a2 a3 hk with h | h
    · exact h3 k h hs
    · rcases hs with e | e | e | e | e | e
      · omega
      · omega
      · omega
      · omega
      · have := hrr.1 k e; omega
      · have := hrr.2.1 k e; omega
  · obtain ⟨b1, b2, b3, b4⟩ := h6 k hk
    refine ⟨b1, (a4.block k (by omega) b4).trans b2, b3, fun hs => ?_⟩
    rcases rfoot_later a2 a3 hs with h | h
    · exact b4 h
    · omega
/-- K's blocks may be written over -/
theorem f_spoil (x : Value) (n : Nat) (w0 w w1 : World) (K P : Nat → Prop) (b : Nat) (st : St) (rs : RS) (h : TwoF w0 K w1 w b st rs) (hPK : ∀ k, P k → K k) (hlow : ∀ k, K k → w0.heap.size ≤ k) (hx : Wf n P w1 x) :
    Calls Tryz.prog 23 #[x] w fun e w' => e = .returned (.tuple #[]) ∧ TwoN w0 w' b st rs := by
  obtain ⟨rb, nb, r2, c2, h1, h2, h3, h4, h5, h6⟩ := id h
  refine (spoil_any n P x w (hx.move (fun k hk => ⟨hk, (h6 k (hPK k hk)).2.1⟩)) (fun k hk => by have := (h6 k (hPK k hk)).1; omega)).mono ?_
  rintro e w' ⟨he, hs⟩
  have hf := hs.fr
  refine ⟨he, rb, nb, r2, c2, h1.kept hf (fun k hk hp => (h6 k (hPK k hp)).2.2.1 hk), ?_, h3, h4.trans (hf.below h4.size (fun k hk => hlow k (hPK k hk)))⟩
  obtain ⟨C, tv, cv, hC, hss⟩ := h2
  exact ⟨C, tv, cv, hC, hss.kept hf (fun k hk hp => (h6 k (hPK k hp)).2.2.2 hk) (fun k hk hp => by have := hlow k (hPK k hp); omega)⟩
theorem con_at {w0 w : World} {b : Nat} {st : St} {rs : RS} (h : TwoN w0 w b st rs) (hrel : Rel st rs) {t : Nat} (ht : t < st.2.length) : ∃ y, y.Ok ∧ backV y.sz st 3 t = some y ∧ rbackV rs 3 t = some y := by
  obtain ⟨rb, nb, r2, c2, _, h2, _, _⟩ := h
  obtain ⟨C, tv, cv, hC, hs⟩ := h2
  have hlt : t < rs.2.length := by have := hrel.2.1; omega
  have hy := nthV_some hlt
  refine ⟨nthV rs.2 t, ?_, (hrel.2.2.1 t _ hy).1, ?_⟩
  · have hm : nthV rs.2 t ∈ C.map (·.1) := by rw [hC]; exact List.mem_of_getElem? hy
    obtain ⟨p, hp, e⟩ := List.mem_map.1 hm
    rw [← e]
    exact hs.ok p hp
  · unfold rbackV
    rw [if_neg (by omega), if_neg (by omega), if_pos rfl, if_pos (by omega), Int.toNat_natCast]
    exact hy

set_option maxRecDepth 100000 in
set_option maxHeartbeats 8000000 in
theorem own_walk (l : List V) (x : Value) (w : World) (hx : IsVs w.heap.size w l x) (hok : l.length ≤ 140737488351232 ∧ OkL l) (htab : ∀ w', Below w.heap.size w w' → Tab w') :
    Calls Tryz.prog 7 #[x] w fun e w' => e = .returned (.bool true) ∧ Below w.heap.size w w' := by
  obtain ⟨a, cap, rfl, hcap, hel⟩ := hx
  obtain ⟨hlen, hok⟩ := hok
  have HEL := Lib.hid hel
  have HOK := Lib.hid hok
  have HTAB := Lib.hid htab
  clear hel hok htab
  obtain ⟨N, hN⟩ : ∃ N : Nat, N = min l.length 10 := ⟨_, rfl⟩
  have hN2 : N ≤ 10 := by omega
  have hNl : N ≤ l.length := by omega
  have hmin : min (l.length : Int) 10 = N := by omega
  clear hN
  go_enter Tryz.func7, Tryz.ntmps7
  go_wp2_with fail
  refine (snew_any w).mono ?_
  rintro e w1 ⟨rfl, hst1, hb1, hz1⟩
  obtain ⟨b, hb⟩ : ∃ b, w1.heap.size = b := ⟨_, rfl⟩
  have HBE := Lib.hid (show b = w.heap.size + 4 from by omega)
  have HT1 := Lib.hid (two_start (w := w) (w1 := w1) ⟨_, _, _, _, _, _, hst1⟩ hb1 hz1)
  rw [← HBE.out] at HT1
  clear hst1 hb1 hz1
  go_wp2_with fail
  obtain ⟨W2, hW2⟩ : ∃ W2, W2 = w1.alloc (.cells #[.slice none 0 0, .slice none 0 0] 37) := ⟨_, rfl⟩
  rw [← hW2] at HT1 ⊢
  clear hW2
  refine (alive_any _ (fun w' h => HTAB.out _ (HT1.out.bel.trans (h.mono HT1.out.bel.size)))).mono ?_
  rintro e w2 ⟨rfl, hb2⟩
  have HT2 := Lib.hid (HT1.out.below hb2)
  clear hb2
  go_wp2_with fail
  go_loopw [30] (fun i wr => ∃ (k : Nat) (st : St) (rs : RS), k ≤ N ∧ i = .int .i64 k ∧ TwoN w wr b st rs ∧ Rel st rs) (fun i _ => N - (intOf i).toNat)
  case atStart => exact ⟨0, ([], []), ([], []), Nat.zero_le _, rfl, HT2.out, Rel.nil⟩
  case round =>
    obtain ⟨k, st, rs, hk, rfl, htw, hrel⟩ := hrel
    have HTW := Lib.hid htw
    have HREL := Lib.hid hrel
    have hBz := htw.bel.size
    clear htw hrel
    by_cases hlt : k < N
    · have hlt' : k < l.length := by omega
      obtain ⟨be, off, rfl, hbB, hels⟩ := HEL.out.resolve_left (by intro e; rw [e] at hlt'; simp at hlt')
      have hcell : ∀ (j : Nat) (u : Value), w.cell? ⟨be, j, none⟩ = some u → wr.cell? ⟨be, j, none⟩ = some u := fun j u h => (World.cell?_of_block (a := ⟨be, j, none⟩) (HTW.out.bel.block be hbB)).trans h
      obtain ⟨sl, e0, e1, e2, e3, hsub⟩ := hels.at hlt'
      obtain ⟨a2, cap2, rfl⟩ := subP_slice hsub
      have HX := Lib.hid (subP_isV hsub)
      have HVO := Lib.hid (okL_nth HOK.out hlt')
      have e0 := hcell _ _ e0
      have e1 := hcell _ _ e1
      have e2 := hcell _ _ e2
      have e3 := hcell _ _ e3
      clear hsub hels hcell
      obtain ⟨v, hv⟩ : ∃ v, nthV l k = v := ⟨_, rfl⟩
      rw [hv] at e0 e1 e2 e3 HX HVO
      clear hv
      have hvlen := ok_len HVO.out
      obtain ⟨W4, hW4⟩ : ∃ W4, W4 = wr.alloc (.cells #[.int .i64 v.k, .int .i64 v.n, .string v.s, .slice a2 v.ps.length cap2] 24) := ⟨_, rfl⟩
      have hb4 : W4.heap[wr.heap.size]? = some (.cells #[.int .i64 v.k, .int .i64 v.n, .string v.s, .slice a2 v.ps.length cap2] 24 (0, 0)) := by rw [hW4]; exact heap_alloc_new _ _
      have hB4 : Below wr.heap.size wr W4 := by rw [hW4]; exact (Below.refl _ _).alloc (Nat.le_refl _) _
      have HB4 := Lib.hid hB4
      have Hb4 := Lib.hid hb4
      have HW4 := Lib.hid hW4
      have hz4 := hB4.size
      have HXW := Lib.hid (fun (X : World) (h : Below wr.heap.size wr X) => IsV.of_p (at_w HX.out (HTW.out.bel.trans (h.mono hBz))) (B := w.heap.size) (fun _ h => h))
      obtain ⟨q, hq⟩ : ∃ q, rightV v = q := ⟨_, rfl⟩
      have HQ := Lib.hid hq
      clear hb4 hB4 hW4 hq
      go_wp2_with fail
      rw [← HW4.out]
      refine (rright_at HQ.out _ w.heap.size W4 (HXW.out W4 HB4.out) (by omega) HVO.out).mono ?_
      rintro e w5 ⟨rfl, hb5⟩
      have HB5 := Lib.hid (HB4.out.trans (hb5.mono hz4))
      have hz5 := hb5.size
      have Hb5 := Lib.hid ((hb5.block _ (heap_lt Hb4.out)).trans Hb4.out)
      obtain ⟨c0, c1, c2, c3⟩ := block4 Hb5.out
      clear hb5 e0 e1 e2 e3
      cases q with
      | false =>
        clear c0 c1 c2 c3
        go_wp2_with fail
        go_roundw
        case rel => exact ⟨k + 1, st, rs, by omega, by go_num, HTW.out.below HB5.out, HREL.out⟩
        case measure => simp [intOf]; omega
      | true =>
        have HC1 := Lib.hid (copied_any (v.sz + 1) v _ 0 w.heap.size w5 (Nat.lt_succ_self _) (HXW.out w5 HB5.out) (by omega) HVO.out (right_may HQ.out))
        go_wp2_with fail
        refine HC1.out.mono ?_
        rintro e w6 ⟨y, rfl, hy6, hwf6, hb6⟩
        obtain ⟨a6, cap6, rfl, _, _⟩ := hy6.open
        have hz6 := hb6.size
        obtain ⟨W7, hW7⟩ : ∃ W7, W7 = w6.alloc (.cells #[.int .i64 v.k, .int .i64 v.n, .string v.s, .slice a6 v.ps.length cap6] 24) := ⟨_, rfl⟩
        have hB7 : Below w6.heap.size w6 W7 := by rw [hW7]; exact (Below.refl _ _).alloc (Nat.le_refl _) _
        have hz7 : W7.heap.size = w6.heap.size + 1 := by rw [hW7]; simp
        have HY7 := Lib.hid (hy6.blocks (w' := W7) (fun j hj => hB7.block j hj.2))
        have HWF7 := Lib.hid (hwf6.move (w' := W7) (Q := fun j => w5.heap.size ≤ j ∧ j < w6.heap.size) (fun j hj => ⟨hj, hB7.block j hj.2⟩))
        have HF7 := Lib.hid (HTW.out.freeze (HB5.out.trans ((hb6.trans (hB7.mono hz6)).mono (by omega))))
        have Hb7 := Lib.hid (show W7.heap[w6.heap.size]? = some (.cells #[.int .i64 v.k, .int .i64 v.n, .string v.s, .slice a6 v.ps.length cap6] 24 (0, 0)) from by rw [hW7]; exact heap_alloc_new _ _)
        have Hbv7 := Lib.hid (show W7.heap[wr.heap.size]? = some (.cells #[.int .i64 v.k, .int .i64 v.n, .string v.s, .slice a2 v.ps.length cap2] 24 (0, 0)) from (hB7.block wr.heap.size (by have := heap_lt Hb5.out; omega)).trans ((hb6.block wr.heap.size (heap_lt Hb5.out)).trans Hb5.out))
        have HW7 := Lib.hid hW7
        have HZ7 := Lib.hid hz7
        have hPK : ∀ j : Nat, (w5.heap.size ≤ j ∧ j < w6.heap.size) → (wr.heap.size ≤ j ∧ j < W7.heap.size) := fun j hj => ⟨by omega, by omega⟩
        have HPK := Lib.hid hPK
        have HLOW := Lib.hid (show ∀ j : Nat, (wr.heap.size ≤ j ∧ j < W7.heap.size) → w.heap.size ≤ j from fun j hj => by omega)
        have HC2 := Lib.hid (f_put v _ w W7 W7 _ _ b st rs HF7.out hPK HY7.out HVO.out HQ.out)
        clear hPK
        clear hy6 hwf6 hb6 hW7 hB7 hz7 HC1 c0 c1 c2 c3
        go_wp2_with fail
        rw [← HW7.out]
        refine HC2.out.mono ?_
        rintro e w8 ⟨rfl, hf8⟩
        have HF8 := Lib.hid hf8
        have hK1 : wr.heap.size ≤ wr.heap.size ∧ wr.heap.size < W7.heap.size := ⟨Nat.le_refl _, heap_lt Hbv7.out⟩
        have hK2 : wr.heap.size ≤ w6.heap.size ∧ w6.heap.size < W7.heap.size := ⟨by omega, heap_lt Hb7.out⟩
        obtain ⟨c0, c1, c2, c3⟩ := block4 ((hf8.at hK1).trans Hbv7.out)
        have HC3 := Lib.hid (f_rput v _ w w8 W7 _ b (putV v st).2.2 rs hf8 HX.out HVO.out HQ.out)
        have HK1 := Lib.hid hK1
        have HK2 := Lib.hid hK2
        clear hf8 HC2 hK1 hK2
        go_wp2_with fail
        refine HC3.out.mono ?_
        rintro e w9 ⟨rfl, hf9⟩
        have HF9 := Lib.hid hf9
        have hz9 := hf9.size
        clear c0 c1 c2 c3
        obtain ⟨c0, c1, c2, c3⟩ := block4 ((hf9.at HK2.out).trans Hb7.out)
        have HC4 := Lib.hid (f_spoil _ (v.sz + 1) w w9 W7 _ _ b (putV v st).2.2 (rputV v rs).2.2 hf9 HPK.out HLOW.out HWF7.out)
        clear hf9 HC3
        go_wp2_with fail
        refine HC4.out.mono ?_
        rintro e w10 ⟨rfl, ht10⟩
        have HT10 := Lib.hid ht10
        have HREL10 := Lib.hid ((agree_put v 0 st rs (right_may HQ.out) HREL.out).2.2)
        clear ht10 HC4 c0 c1 c2 c3
        go_wp2_with fail
        go_roundw
        case rel => exact ⟨k + 1, (putV v st).2.2, (rputV v rs).2.2, by omega, by go_num, HT10.out, HREL10.out⟩
        case measure => simp [intOf]; omega
    · have hlen2 : st.2.length ≤ 16384 := by
        obtain ⟨rb, nb, r2, c2, h1, _⟩ := HTW.out
        obtain ⟨sv, nv, D, D', n, n', hs⟩ := h1
        exact hs.len
      obtain ⟨wa, hwa⟩ : ∃ wa, wa = wr := ⟨_, rfl⟩
      subst hwa
      obtain ⟨rb0, nb0, r20, c20, hs0, _⟩ := HTW.out
      have HC := Lib.hid (slen_any w.heap.size st rb0 nb0 wa hs0)
      clear hs0
      go_wp2_with fail
      refine HC.out.mono ?_
      rintro e w3 ⟨rfl, rfl⟩
      clear HC
      go_wp2_with fail
      go_loopw [49] (fun i wr => ∃ t : Nat, t ≤ st.2.length ∧ i = .int .i64 t ∧ TwoN w wr b st rs) (fun i _ => st.2.length - (intOf i).toNat)
      case atStart => exact ⟨0, Nat.zero_le _, rfl, HTW.out⟩
      case round =>
        obtain ⟨t, ht, rfl, htw⟩ := hrel
        have HTW2 := Lib.hid htw
        have hBz2 := htw.bel.size
        clear htw
        by_cases hlt2 : t < st.2.length
        · obtain ⟨y, hyo, hyb, _⟩ := con_at HTW2.out HREL.out hlt2
          have hylen := ok_len hyo
          obtain ⟨rb1, nb1, r21, c21, hs1, _⟩ := HTW2.out
          have HC := Lib.hid (backW_any y.sz w.heap.size st rb1 nb1 wr 3 t y hs1 hyb)
          clear hs1 hyo hyb
          go_wp2_with fail
          refine HC.out.mono ?_
          rintro e w5 ⟨x, rfl, hy5, hwf5, hb5⟩
          obtain ⟨a5, cap5, rfl, _, _⟩ := hy5.open
          have hz5 := hb5.size
          obtain ⟨W6, hW6⟩ : ∃ W6, W6 = w5.alloc (.cells #[.int .i64 y.k, .int .i64 y.n, .string y.s, .slice a5 y.ps.length cap5] 24) := ⟨_, rfl⟩
          have hB6 : Below w5.heap.size w5 W6 := by rw [hW6]; exact (Below.refl _ _).alloc (Nat.le_refl _) _
          have hz6 : W6.heap.size = w5.heap.size + 1 := by rw [hW6]; simp
          have hb6 : W6.heap[w5.heap.size]? = some (.cells #[.int .i64 y.k, .int .i64 y.n, .string y.s, .slice a5 y.ps.length cap5] 24 (0, 0)) := by rw [hW6]; exact heap_alloc_new _ _
          have HWF6 := Lib.hid (hwf5.move (w' := W6) (Q := fun j => wr.heap.size ≤ j ∧ j < w5.heap.size) (fun j hj => ⟨hj, hB6.block j hj.2⟩))
          have HF6 := Lib.hid (HTW2.out.freeze (hb5.trans (hB6.mono hz5)))
          have HC2 := Lib.hid (f_spoil _ y.sz w W6 W6 _ _ b st rs HF6.out (show ∀ j : Nat, (wr.heap.size ≤ j ∧ j < w5.heap.size) → (wr.heap.size ≤ j ∧ j < W6.heap.size) from fun j hj => ⟨hj.1, by omega⟩) (show ∀ j : Nat, (wr.heap.size ≤ j ∧ j < W6.heap.size) → w.heap.size ≤ j from fun j hj => by omega) HWF6.out)
          have HW6 := Lib.hid hW6
          obtain ⟨c0, c1, c2, c3⟩ := block4 hb6
          clear hy5 hwf5 hb5 hB6 hz6 hb6 hW6 HC
          go_upto_region 18 with fail
          rw [← HW6.out]
          go_wp2_with fail
          refine HC2.out.mono ?_
          rintro e w7 ⟨rfl, ht7⟩
          have HT7 := Lib.hid ht7
          clear ht7 HC2 c0 c1 c2 c3
          go_wp2_with fail
          go_roundw
          case rel => exact ⟨t + 1, by omega, by go_num, HT7.out⟩
          case measure => simp [intOf]; omega
        · obtain ⟨wb, hwb⟩ : ∃ wb, wb = wr := ⟨_, rfl⟩
          subst hwb
          obtain ⟨rb0, nb0, r20, c20, hs0, _⟩ := HTW2.out
          have HC := Lib.hid (slen_any w.heap.size st rb0 nb0 wb hs0)
          clear hs0
          go_wp2_with fail
          refine HC.out.mono ?_
          rintro e w3 ⟨rfl, rfl⟩
          clear HC
          go_wp2_with fail
          go_loopw [63] (fun i wr => ∃ t : Nat, t ≤ st.2.length ∧ i = .int .i64 t ∧ TwoN w wr b st rs) (fun i _ => st.2.length - (intOf i).toNat)
          case atStart => exact ⟨0, Nat.zero_le _, rfl, HTW2.out⟩
          case round =>
            obtain ⟨t3, ht3, rfl, htw⟩ := hrel
            have HTW3 := Lib.hid htw
            have hBz3 := htw.bel.size
            clear htw
            by_cases hlt3 : t3 < st.2.length
            · obtain ⟨y, hyo, hyb, hyr⟩ := con_at HTW3.out HREL.out hlt3
              have hylen := ok_len hyo
              obtain ⟨rb1, nb1, r21, c21, hs1, _⟩ := HTW3.out
              have HC := Lib.hid (backW_any y.sz w.heap.size st rb1 nb1 wr 3 t3 y hs1 hyb)
              have HYO := Lib.hid hyo
              have HYR := Lib.hid hyr
              clear hs1 hyo hyb hyr
              go_wp2_with fail
              refine HC.out.mono ?_
              rintro e w5 ⟨x, rfl, hy5, hwf5, hb5⟩
              obtain ⟨a5, cap5, rfl, _, _⟩ := hy5.open
              have hz5 := hb5.size
              obtain ⟨W6, hW6⟩ : ∃ W6, W6 = w5.alloc (.cells #[.int .i64 y.k, .int .i64 y.n, .string y.s, .slice a5 y.ps.length cap5] 24) := ⟨_, rfl⟩
              have hB6 : Below w5.heap.size w5 W6 := by rw [hW6]; exact (Below.refl _ _).alloc (Nat.le_refl _) _
              have hz6 : W6.heap.size = w5.heap.size + 1 := by rw [hW6]; simp
              have hb6 : W6.heap[w5.heap.size]? = some (.cells #[.int .i64 y.k, .int .i64 y.n, .string y.s, .slice a5 y.ps.length cap5] 24 (0, 0)) := by rw [hW6]; exact heap_alloc_new _ _
              have HT6 := Lib.hid (HTW3.out.below (hb5.trans (hB6.mono hz5)))
              have HZ6 := Lib.hid (IsV.of_p (hy5.blocks (w' := W6) (fun j hj => hB6.block j hj.2)) (B := w5.heap.size) (fun j hj => hj.2))
              have Hb6 := Lib.hid hb6
              have HW6 := Lib.hid hW6
              obtain ⟨rb2, nb2, r22, c22, _, hr2, _⟩ := HT6.out
              have HC2 := Lib.hid (rsback_any w.heap.size b rs r22 c22 3 t3 W6 hr2)
              unfold RBack at HC2
              rw [HYR.out] at HC2
              clear hy5 hwf5 hb5 hB6 hb6 hW6 HC hr2
              go_wp2_with fail
              rw [← HW6.out]
              refine HC2.out.mono ?_
              rintro e w7 ⟨hb7, z, rfl, hz⟩
              have hz : IsV w.heap.size w7 y z := hz
              obtain ⟨a7, cap7, rfl, _, _⟩ := hz.open
              have HT7 := Lib.hid (HT6.out.below hb7)
              have HZ7 := Lib.hid hz
              have HZY7 := Lib.hid (HZ6.out.below (hb7.mono (by omega)))
              have hz7 := hb7.size
              have Hb7 := Lib.hid ((hb7.block _ (heap_lt Hb6.out)).trans Hb6.out)
              clear hb7 hz HC2
              obtain ⟨W8, hW8⟩ : ∃ W8, W8 = w7.alloc (.cells #[.int .i64 y.k, .int .i64 y.n, .string y.s, .slice a7 y.ps.length cap7] 24) := ⟨_, rfl⟩
              have hB8 : Below w7.heap.size w7 W8 := by rw [hW8]; exact (Below.refl _ _).alloc (Nat.le_refl _) _
              have hb8 : W8.heap[w7.heap.size]? = some (.cells #[.int .i64 y.k, .int .i64 y.n, .string y.s, .slice a7 y.ps.length cap7] 24 (0, 0)) := by rw [hW8]; exact heap_alloc_new _ _
              have HT8 := Lib.hid (HT7.out.below hB8)
              have hz8 := hB8.size
              have HZ8 := Lib.hid ((HZ7.out.below (hB8.mono HT7.out.bel.size)).mono (show w.heap.size ≤ W8.heap.size from HT8.out.bel.size))
              have HZY8 := Lib.hid ((HZY7.out.below (hB8.mono (by omega))).mono (show w5.heap.size ≤ W8.heap.size by omega))
              obtain ⟨q0, q1, q2, q3⟩ := block4 hb8
              obtain ⟨p0, p1, p2, p3⟩ := block4 ((hB8.block _ (heap_lt Hb7.out)).trans Hb7.out)
              have HW8 := Lib.hid hW8
              have HZZ6 := Lib.hid hz6
              clear hB8 hb8 hW8 hz6
              go_upto_region 25 with fail
              rw [← HW8.out]
              go_wp2_with fail
              refine (raw_any (y.sz + 1) y y _ _ W8.heap.size W8 (Nat.lt_succ_self _) HZY8.out HZ8.out (Nat.le_refl _) HYO.out HYO.out).mono ?_
              rintro e w9 ⟨rfl, hb9⟩
              rw [rawV_refl]
              have HT9 := Lib.hid (HT8.out.below hb9)
              clear hb9 p0 p1 p2 p3 q0 q1 q2 q3
              go_wp2_with fail
              go_roundw
              case rel => exact ⟨t3 + 1, by omega, by go_num, HT9.out⟩
              case measure => simp [intOf]; omega
            · obtain ⟨rb, nb, r2, c2', hsto, hrst, _⟩ := HTW3.out
              obtain ⟨C, tv, cv, hC, hrs⟩ := hrst
              have hlen8 : (C.length : Int) = st.2.length := by
                have := HREL.out.2.1
                rw [← hC] at this
                simp at this
                omega
              obtain ⟨ac, capc, rfl⟩ := hrs.slice
              have HSTO := Lib.hid hsto
              have HRS := Lib.hid hrs
              clear hC hsto hrs
              go_wp2_with fail
              have HK := Lib.hid (show ∀ w', Below wr.heap.size wr w' → Below wr.heap.size wr w' ∧ w'.cell? ⟨b, 1, none⟩ = some (.slice ac C.length capc) from fun w' h => ⟨h, below_cell h HRS.out.c1⟩)
              go_region_held3 (fun w' => Below wr.heap.size wr w' ∧ w'.cell? ⟨b, 1, none⟩ = some (.slice ac C.length capc)) (first | exact HK.out _ (Below.refl _ _).drew | exact HK.out _ (by assumption) | assumption) (first | (go_at_call 24; obtain ⟨hSB, hSr⟩ := ‹Below wr.heap.size wr _ ∧ _›; refine (slen_any w.heap.size _ rb nb _ (stor_new HSTO.out hSB)).mono ?_; rintro e w9 ⟨rfl, rfl⟩))
              all_goals
                have hN8 := ‹Below wr.heap.size wr _ ∧ _›.1
                go_wp2_with fail
                go_ret
                exact ⟨by simp, (HTW3.out.below hN8).bel⟩
end Go.Proofs.YtnddcicadmbmkaaGreatDoor
