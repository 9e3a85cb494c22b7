/- A row of values, put one behind the other: its numbers. Plain. Raw (func 27): whether two values are the same, part by part. -/
import Derived.Test.YtnddcicadmbmkaaGreatDoorK1
import Derived.Test.YtnddcicadmbmkaaGreatDoorG4
import Derived.Test.YtnddcicadmbmkaaGreatDoorA7
namespace Go.Proofs.YtnddcicadmbmkaaGreatDoor
open Go.RowKit Go.Maps

theorem pE_two (L : List ByteArray) (s : ByteArray) : Sy.pE L s = 0 ∨ Sy.pE L s = 18 := by
  unfold Sy.pE
  by_cases h1 : Sy.hasB L s = true
  · rw [if_pos h1]; exact .inl rfl
  · rw [if_neg h1]
    by_cases h2 : 16384 ≤ L.length
    · rw [if_pos h2]; exact .inr rfl
    · rw [if_neg h2]; exact .inl rfl
theorem nput_two (n : Nd) (st : St) : (nput n st).2.1 = 0 ∨ (nput n st).2.1 = 18 := by
  unfold nput
  split
  · exact .inl rfl
  · split
    · exact .inr rfl
    · exact .inl rfl
mutual
theorem putV_two : ∀ (v : V) (st : St), (putV v st).2.1 = 0 ∨ (putV v st).2.1 = 18
  | .mk k n s ps, st => by
    unfold putV
    by_cases h1 : k = 1
    · rw [if_pos h1]; exact .inl rfl
    · rw [if_neg h1]
      by_cases h2 : k = 2
      · rw [if_pos h2]
        rcases pE_two st.1 s with h | h
        · exact .inl (by simp [h])
        · exact .inr (by simp [h])
      · rw [if_neg h2]
        split
        · exact putVs_two ps st
        · exact nput_two _ _
theorem putVs_two : ∀ (l : List V) (st : St), (putVs l st).2.1 = 0 ∨ (putVs l st).2.1 = 18
  | [], st => by unfold putVs; exact .inl rfl
  | x :: r, st => by
    unfold putVs
    split
    · exact putV_two x st
    · exact putVs_two r _
end
theorem hasB_app {s : ByteArray} : ∀ {L x : List ByteArray}, Sy.hasB L s = true → Sy.hasB (L ++ x) s = true ∧ Sy.idx (L ++ x) s = Sy.idx L s
  | [], x, h => by simp [Sy.hasB] at h
  | y :: r, x, h => by
    rw [List.cons_append]
    unfold Sy.hasB Sy.idx
    unfold Sy.hasB at h
    by_cases e : y = s
    · rw [if_pos e, if_pos e, if_pos e]; exact ⟨rfl, rfl⟩
    · rw [if_neg e] at h
      obtain ⟨h1, h2⟩ := hasB_app (x := x) h
      rw [if_neg e, if_neg e, if_neg e]; exact ⟨h1, by rw [h2]⟩
theorem hasB_new {s : ByteArray} : ∀ {L x : List ByteArray}, ¬ Sy.hasB L s = true → Sy.hasB (L ++ (s :: x)) s = true ∧ Sy.idx (L ++ (s :: x)) s = L.length
  | [], x, _ => by simp [Sy.hasB, Sy.idx]
  | y :: r, x, h => by
    rw [List.cons_append]
    unfold Sy.hasB Sy.idx
    unfold Sy.hasB at h
    by_cases e : y = s
    · rw [if_pos e] at h; exact absurd rfl h
    · rw [if_neg e] at h
      obtain ⟨h1, h2⟩ := hasB_new (x := x) h
      rw [if_neg e, if_neg e]; exact ⟨h1, by rw [h2]; rfl⟩
theorem nhas_app {s : Nd} : ∀ {L x : List Nd}, nhas L s = true → nhas (L ++ x) s = true ∧ nidx (L ++ x) s = nidx L s
  | [], x, h => by simp [nhas] at h
  | y :: r, x, h => by
    rw [List.cons_append]
    unfold nhas nidx
    unfold nhas at h
    by_cases e : y = s
    · rw [if_pos e, if_pos e, if_pos e]; exact ⟨rfl, rfl⟩
    · rw [if_neg e] at h
      obtain ⟨h1, h2⟩ := nhas_app (x := x) h
      rw [if_neg e, if_neg e, if_neg e]; exact ⟨h1, by rw [h2]⟩
theorem nhas_new {s : Nd} : ∀ {L x : List Nd}, ¬ nhas L s = true → nhas (L ++ (s :: x)) s = true ∧ nidx (L ++ (s :: x)) s = L.length
  | [], x, _ => by simp [nhas, nidx]
  | y :: r, x, h => by
    rw [List.cons_append]
    unfold nhas nidx
    unfold nhas at h
    by_cases e : y = s
    · rw [if_pos e] at h; exact absurd rfl h
    · rw [if_neg e] at h
      obtain ⟨h1, h2⟩ := nhas_new (x := x) h
      rw [if_neg e, if_neg e]; exact ⟨h1, by rw [h2]; rfl⟩
/-- a text that was put is found by its number in every table that came of it -/
theorem sym_again {L x : List ByteArray} {s : ByteArray} (h : Sy.pE L s = 0) : Sy.pN (Sy.pL L s ++ x) s = Sy.pN L s ∧ Sy.pE (Sy.pL L s ++ x) s = 0 ∧ Sy.pL (Sy.pL L s ++ x) s = Sy.pL L s ++ x := by
  have key : Sy.hasB (Sy.pL L s ++ x) s = true ∧ Sy.idx (Sy.pL L s ++ x) s = Sy.pN L s := by
    unfold Sy.pE at h
    unfold Sy.pL Sy.pN
    by_cases h1 : Sy.hasB L s = true
    · rw [if_pos h1, if_pos h1]; exact hasB_app h1
    · rw [if_neg h1] at h ⊢
      rw [if_neg h1]
      by_cases h2 : 16384 ≤ L.length
      · rw [if_pos h2] at h; omega
      · rw [if_neg h2, if_neg h2, List.append_assoc]; exact hasB_new h1
  obtain ⟨k1, k2⟩ := key
  refine ⟨?_, ?_, ?_⟩
  · rw [← k2]; show Sy.pN _ s = _; unfold Sy.pN; rw [if_pos k1]
  · unfold Sy.pE; rw [if_pos k1]
  · show Sy.pL _ s = _
    generalize Sy.pL L s ++ x = M at k1
    unfold Sy.pL; rw [if_pos k1]
theorem node_again {n : Nd} {st st' : St} (h : (nput n st).2.1 = 0) (he : Ext (nput n st).2.2 st') : nput n st' = ((nput n st).1, 0, st') := by
  obtain ⟨_, ⟨y, hy⟩⟩ := he
  have key : nhas st'.2 n = true ∧ ((nidx st'.2 n : Nat) : Int) = (nput n st).1 := by
    unfold nput at h hy ⊢
    by_cases h1 : nhas st.2 n = true
    · rw [if_pos h1] at hy ⊢
      obtain ⟨h2, h3⟩ := nhas_app (x := y) h1
      rw [hy]; exact ⟨h2, by rw [h3]⟩
    · rw [if_neg h1] at h hy ⊢
      by_cases h2 : 16384 ≤ st.2.length
      · rw [if_pos h2] at h; simp at h
      · rw [if_neg h2] at hy ⊢
        have hy' : st'.2 = st.2 ++ (n :: y) := by rw [hy]; simp
        obtain ⟨h3, h4⟩ := nhas_new (x := y) h1
        rw [hy']; exact ⟨h3, by rw [h4]⟩
  have hq : nput n st' = (((nidx st'.2 n : Nat) : Int), 0, st') := by unfold nput; rw [if_pos key.1]
  rw [hq, key.2]
mutual
theorem put_again : ∀ (v : V) (st st' : St), (putV v st).2.1 = 0 → Ext (putV v st).2.2 st' → putV v st' = ((putV v st).1, 0, st')
  | .mk k n s ps, st, st', h0, he => by
    unfold putV at h0 he ⊢
    by_cases h1 : k = 1
    · rw [if_pos h1, if_pos h1]
    · rw [if_neg h1] at h0 he
      rw [if_neg h1, if_neg h1]
      by_cases h2 : k = 2
      · rw [if_pos h2] at h0 he
        rw [if_pos h2, if_pos h2]
        obtain ⟨⟨x, hx⟩, _⟩ := he
        obtain ⟨a1, a2, a3⟩ := sym_again (L := st.1) (s := s) (x := x) (by simpa using h0)
        have hx' : st'.1 = Sy.pL st.1 s ++ x := hx
        rw [hx', a1, a2, a3, ← hx']
        rfl
      · rw [if_neg h2] at h0 he
        rw [if_neg h2, if_neg h2]
        by_cases h4 : (putVs ps st).2.1 ≠ 0
        · rw [if_pos h4] at h0; exact absurd h0 h4
        · rw [if_neg h4] at h0 he
          have h5 : (putVs ps st).2.1 = 0 := by simpa using h4
          have hb := puts_again ps st st' h5 ((nput_ext _ _).trans he)
          rw [hb, if_neg (by simp), if_neg h4]
          exact node_again h0 he
theorem puts_again : ∀ (l : List V) (st st' : St), (putVs l st).2.1 = 0 → Ext (putVs l st).2.2 st' → putVs l st' = ((putVs l st).1, 0, st')
  | [], st, st', _, _ => by unfold putVs; rfl
  | x :: r, st, st', h0, he => by
    unfold putVs at h0 he ⊢
    by_cases h4 : (putV x st).2.1 ≠ 0
    · rw [if_pos h4] at h0; exact absurd h0 h4
    · rw [if_neg h4] at h0 he
      have h5 : (putV x st).2.1 = 0 := by simpa using h4
      have h1 := put_again x st st' h5 ((putVs_ext _ _).trans he)
      have h2 := puts_again r (putV x st).2.2 st' h0 he
      rw [h1, if_neg (by simp), if_neg h4]
      show ((x.k, (putV x st).1) :: (putVs r st').1, (putVs r st').2.1, (putVs r st').2.2) = _
      rw [h2]
end
/-- l is put from st on, each with its number of ns; st' comes of it -/
def Steps : List V → St → List Int → St → Prop
  | [], st, [], st' => st' = st
  | v :: r, st, n :: ns, st' => (putV v st).2.1 = 0 ∧ (putV v st).1 = n ∧ Steps r (putV v st).2.2 ns st'
  | _, _, _, _ => False
theorem Steps.len : ∀ {l : List V} {st : St} {ns : List Int} {st' : St}, Steps l st ns st' → ns.length = l.length
  | [], _, [], _, _ => rfl
  | v :: r, st, n :: ns, st', h => by simp [Steps.len (l := r) h.2.2]
  | [], _, _ :: _, _, h => by cases h
  | _ :: _, _, [], _, h => by cases h
theorem Steps.snoc : ∀ {l : List V} {st : St} {ns : List Int} {st' : St} {v : V}, Steps l st ns st' → (putV v st').2.1 = 0 → Steps (l ++ [v]) st (ns ++ [(putV v st').1]) (putV v st').2.2
  | [], _, [], _, v, h, h0 => by
    have h : _ = _ := h
    subst h
    exact ⟨h0, rfl, rfl⟩
  | v :: r, st, n :: ns, st', u, h, h0 => ⟨h.1, h.2.1, Steps.snoc (l := r) h.2.2 h0⟩
  | [], _, _ :: _, _, _, h, _ => by cases h
  | _ :: _, _, [], _, _, h, _ => by cases h
theorem Steps.ext : ∀ {l : List V} {st : St} {ns : List Int} {st' : St}, Steps l st ns st' → Ext st st'
  | [], st, [], _, h => by
    have h : _ = _ := h
    subst h
    exact Ext.refl _
  | v :: r, st, n :: ns, st', h => (putV_ext v st).trans (Steps.ext (l := r) h.2.2)
  | [], _, _ :: _, _, h => by cases h
  | _ :: _, _, [], _, h => by cases h
theorem Steps.at : ∀ {l : List V} {st : St} {ns : List Int} {st' : St} {i : Nat} {v : V}, Steps l st ns st' → l[i]? = some v → ∃ st1, (putV v st1).2.1 = 0 ∧ ns[i]? = some (putV v st1).1 ∧ Ext (putV v st1).2.2 st'
  | [], _, _, _, _, _, _, hi => by simp at hi
  | v :: r, st, n :: ns, st', 0, u, h, hi => by
    simp at hi
    subst hi
    exact ⟨st, h.1, by simp [h.2.1], Steps.ext h.2.2⟩
  | v :: r, st, n :: ns, st', i + 1, u, h, hi => by
    obtain ⟨st1, a, b, c⟩ := Steps.at (l := r) (i := i) h.2.2 (by simpa using hi)
    exact ⟨st1, a, by simpa using b, c⟩
  | _ :: _, _, [], _, _, _, h, _ => by cases h
theorem Steps.back {l : List V} {st : St} {ns : List Int} {st' : St} {i : Nat} {v : V} {n : Int} (h : Steps l st ns st') (hv : l[i]? = some v) (hn : ns[i]? = some n) (hm : mayV v 0 = true) (f : Nat) (hf : v.sz ≤ f) : backV f st' v.k n = some v := by
  obtain ⟨st1, a, b, c⟩ := h.at hv
  rw [hn] at b
  rw [Option.some.inj b]
  exact put_back v 0 st1 st' f hm a c hf
theorem Steps.same {l : List V} {st : St} {ns : List Int} {st' : St} {i j : Nat} {v u : V} {n m : Int} (h : Steps l st ns st') (hv : l[i]? = some v) (hn : ns[i]? = some n) (hu : l[j]? = some u) (hm : ns[j]? = some m) (rv : mayV v 0 = true) (ru : mayV u 0 = true) (hk : v.k = u.k) : n = m ↔ v = u := by
  constructor
  · intro e
    have h1 := h.back hv hn rv (v.sz + u.sz) (by omega)
    have h2 := h.back hu hm ru (v.sz + u.sz) (by omega)
    rw [hk, e, h2] at h1
    exact (Option.some.inj h1).symm
  · intro e
    subst e
    obtain ⟨s1, a, b, c⟩ := h.at hv
    obtain ⟨s2, a2, b2, c2⟩ := h.at hu
    have h1 := put_again v s1 st' a c
    have h2 := put_again v s2 st' a2 c2
    rw [hn] at b
    rw [hm] at b2
    rw [Option.some.inj b, Option.some.inj b2]
    rw [h1] at h2
    exact (Prod.mk.inj h2).1

mutual
def rawV : V → V → Bool
  | .mk k n s ps, .mk k' n' s' ps' => decide (k = k') && (decide (n = n') && (decide (s = s') && (decide (ps.length = ps'.length) && rawVs ps ps')))
def rawVs : List V → List V → Bool
  | [], _ => true
  | _ :: _, [] => true
  | x :: r, y :: q => rawV x y && rawVs r q
end
mutual
theorem rawV_eq : ∀ (v u : V), rawV v u = true → v = u
  | .mk k n s ps, .mk k' n' s' ps', h => by
    unfold rawV at h
    simp only [Bool.and_eq_true, decide_eq_true_eq] at h
    obtain ⟨rfl, rfl, rfl, h4, h5⟩ := h
    rw [rawVs_eq ps ps' h4 h5]
theorem rawVs_eq : ∀ (l m : List V), l.length = m.length → rawVs l m = true → l = m
  | [], [], _, _ => rfl
  | [], y :: q, h, _ => by simp at h
  | x :: r, [], h, _ => by simp at h
  | x :: r, y :: q, h, h2 => by
    unfold rawVs at h2
    simp only [Bool.and_eq_true] at h2
    rw [rawV_eq x y h2.1, rawVs_eq r q (by simpa using h) h2.2]
end
mutual
theorem rawV_refl : ∀ (v : V), rawV v v = true
  | .mk k n s ps => by
    unfold rawV
    simp [rawVs_refl ps]
theorem rawVs_refl : ∀ (l : List V), rawVs l l = true
  | [] => by unfold rawVs; rfl
  | x :: r => by
    unfold rawVs
    simp [rawV_refl x, rawVs_refl r]
end
theorem raw_iff (v u : V) : rawV v u = true ↔ v = u := ⟨rawV_eq v u, fun h => h ▸ rawV_refl v⟩
theorem raw_no (v u : V) (h : v.k ≠ u.k ∨ v.n ≠ u.n ∨ v.s ≠ u.s ∨ v.ps.length ≠ u.ps.length) : rawV v u = false := by
  cases hr : rawV v u with
  | false => rfl
  | true =>
    have := rawV_eq v u hr
    subst this
    simp at h
theorem raw_parts (v u : V) (h : v.k = u.k) (h1 : v.n = u.n) (h2 : v.s = u.s) (h3 : v.ps.length = u.ps.length) : rawV v u = rawVs v.ps u.ps := by
  cases v; cases u; simp only [V.k, V.n, V.s, V.ps] at h h1 h2 h3 ⊢; unfold rawV; simp [h, h1, h2, h3]
theorem rawVs_drop {l m : List V} {k : Nat} (h : k < l.length) (h2 : k < m.length) : rawVs (l.drop k) (m.drop k) = (rawV (nthV l k) (nthV m k) && rawVs (l.drop (k + 1)) (m.drop (k + 1))) := by
  rw [drop_nth h, drop_nth h2, rawVs]
theorem rawVs_end {l m : List V} {k : Nat} (h : ¬ k < l.length) : rawVs (l.drop k) (m.drop k) = true := by
  rw [List.drop_eq_nil_of_le (by omega)]; unfold rawVs; rfl

set_option maxRecDepth 100000 in
set_option maxHeartbeats 4000000 in
theorem raw_any (N : Nat) : ∀ (v u : V) (x y : Value) (B : Nat) (w : World), v.sz < N → IsV B w v x → IsV B w u y → B ≤ w.heap.size → v.Ok → u.Ok →
    Calls Tryz.prog 27 #[x, y] w fun e w' => e = .returned (.bool (rawV v u)) ∧ Below w.heap.size w w' := by
  induction N with
  | zero => intro v u x y B w h; omega
  | succ N ih =>
    intro v u x y B w hN hx hy hB hok hok2
    obtain ⟨a, cap, rfl, hcap, hel⟩ := hx.open
    obtain ⟨a2, cap2, rfl, hcap2, hel2⟩ := hy.open
    have hlen := ok_len hok
    have hlen2 := ok_len hok2
    have HIH := Lib.hid ih
    have HE := Lib.hid hel
    have HE2 := Lib.hid hel2
    have HOK := Lib.hid hok
    have HOK2 := Lib.hid hok2
    clear ih hel hel2 hok hok2 hx hy
    obtain ⟨W0, hW0⟩ : ∃ W0, W0 = (w.alloc (.cells #[.int .i64 v.k, .int .i64 v.n, .string v.s, .slice a v.ps.length cap] 24)).alloc (.cells #[.int .i64 u.k, .int .i64 u.n, .string u.s, .slice a2 u.ps.length cap2] 24) := ⟨_, rfl⟩
    have hb0 : W0.heap[w.heap.size]? = some (.cells #[.int .i64 v.k, .int .i64 v.n, .string v.s, .slice a v.ps.length cap] 24 (0, 0)) := by rw [hW0, heap_alloc_old _ _ (by simp)]; exact heap_alloc_new _ _
    have hb1 : W0.heap[w.heap.size + 1]? = some (.cells #[.int .i64 u.k, .int .i64 u.n, .string u.s, .slice a2 u.ps.length cap2] 24 (0, 0)) := by
      have := heap_alloc_new (w.alloc (.cells #[.int .i64 v.k, .int .i64 v.n, .string v.s, .slice a v.ps.length cap] 24)) (.cells #[.int .i64 u.k, .int .i64 u.n, .string u.s, .slice a2 u.ps.length cap2] 24)
      rw [hW0]
      simpa using this
    have hz0 : W0.heap.size = w.heap.size + 2 := by rw [hW0]; simp
    have hB0 : Below w.heap.size w W0 := by rw [hW0]; exact two_below _ _ _
    have HW0 := Lib.hid hW0
    have HB0 := Lib.hid hB0
    have Hb0 := Lib.hid hb0
    have Hb1 := Lib.hid hb1
    clear hW0 hB0 hb0 hb1
    by_cases hd : v.k ≠ u.k ∨ v.n ≠ u.n ∨ v.s ≠ u.s ∨ v.ps.length ≠ u.ps.length
    · have heq := Lib.hid (raw_no v u hd)
      have HD := Lib.hid hd
      clear hd
      by_cases h1 : v.k = u.k
      · by_cases h2 : v.n = u.n
        · by_cases h3 : v.s = u.s
          · have h4 : v.ps.length ≠ u.ps.length := by rcases HD.out with h | h | h | h; exact absurd h1 h; exact absurd h2 h; exact absurd h3 h; exact h
            have ek : (v.k != u.k) = false := by simp [h1]
            have en : (v.n != u.n) = false := by simp [h2]
            have es : (v.s.toList == u.s.toList) = true := by rw [str_eq]; simp [h3]
            have el : ((v.ps.length : Int) != u.ps.length) = true := by simp; omega
            have el2 : ((v.ps.length : Int) == u.ps.length) = false := by simp; omega
            clear h1 h2 h3 h4
            go_enter Tryz.func27, Tryz.ntmps27
            go_wp2_with fail
            rw [← HW0.out]
            go_ret
            exact ⟨ret_bool heq.out.symm, HB0.out⟩
          · have ek : (v.k != u.k) = false := by simp [h1]
            have en : (v.n != u.n) = false := by simp [h2]
            have es : (v.s.toList == u.s.toList) = false := by rw [str_eq]; simp [h3]
            clear h1 h2 h3
            go_enter Tryz.func27, Tryz.ntmps27
            go_wp2_with fail
            rw [← HW0.out]
            go_ret
            exact ⟨ret_bool heq.out.symm, HB0.out⟩
        · have ek : (v.k != u.k) = false := by simp [h1]
          have en : (v.n != u.n) = true := by simp [h2]
          clear h1 h2
          go_enter Tryz.func27, Tryz.ntmps27
          go_wp2_with fail
          rw [← HW0.out]
          go_ret
          exact ⟨ret_bool heq.out.symm, HB0.out⟩
      · have ek : (v.k != u.k) = true := by simp [h1]
        clear h1
        go_enter Tryz.func27, Tryz.ntmps27
        go_wp2_with fail
        rw [← HW0.out]
        go_ret
        exact ⟨ret_bool heq.out.symm, HB0.out⟩
    · have h1 : v.k = u.k := by by_cases h : v.k = u.k; exact h; exact absurd (.inl h) hd
      have h2 : v.n = u.n := by by_cases h : v.n = u.n; exact h; exact absurd (.inr (.inl h)) hd
      have h3 : v.s = u.s := by by_cases h : v.s = u.s; exact h; exact absurd (.inr (.inr (.inl h))) hd
      have h4 : v.ps.length = u.ps.length := by by_cases h : v.ps.length = u.ps.length; exact h; exact absurd (.inr (.inr (.inr h))) hd
      have heq2 := Lib.hid (raw_parts v u h1 h2 h3 h4)
      have ek : (v.k != u.k) = false := by simp [h1]
      have en : (v.n != u.n) = false := by simp [h2]
      have es : (v.s.toList == u.s.toList) = true := by rw [str_eq]; simp [h3]
      have el : ((v.ps.length : Int) != u.ps.length) = false := by simp; omega
      have el2 : ((v.ps.length : Int) == u.ps.length) = true := by simp; omega
      have HL := Lib.hid h4
      clear h1 h2 h3 h4 hd
      go_enter Tryz.func27, Tryz.ntmps27
      go_wp2_with fail
      rw [← HW0.out]
      go_loopw [5] (fun i wr => ∃ (k : Nat), k ≤ v.ps.length ∧ i = .int .i64 k ∧ rawVs (v.ps.drop k) (u.ps.drop k) = rawV v u ∧ Below W0.heap.size W0 wr) (fun i _ => v.ps.length - (intOf i).toNat)
      case atStart => exact ⟨0, Nat.zero_le _, rfl, by rw [heq2.out]; rfl, Below.refl _ _⟩
      case round =>
        obtain ⟨k, hk, rfl, hq2, hBw⟩ := hrel
        have HQ := Lib.hid hq2
        have HBw := Lib.hid hBw
        have hbz := hBw.size
        clear hq2 hBw
        obtain ⟨_, _, _, hc3⟩ := block4 ((HBw.out.block w.heap.size (by omega)).trans Hb0.out)
        by_cases hlt : k < v.ps.length
        · have hlt2 : k < u.ps.length := by have := HL.out; omega
          obtain ⟨b, off, rfl, hbB, hels⟩ := HE.out.resolve_left (by intro e; rw [e] at hlt; simp at hlt)
          obtain ⟨b2, off2, rfl, hbB2, hels2⟩ := HE2.out.resolve_left (by intro e; rw [e] at hlt2; simp at hlt2)
          have hBall : Below B w wr := (HB0.out.mono hB).trans (HBw.out.mono (by omega))
          obtain ⟨sl, e0, e1, e2, e3, hsub⟩ := (hels.below hBall hbB).at hlt
          obtain ⟨sl2, g0, g1, g2, g3, hsub2⟩ := (hels2.below hBall hbB2).at hlt2
          obtain ⟨_, _, _, hd3⟩ := block4 ((HBw.out.block (w.heap.size + 1) (by omega)).trans Hb1.out)
          have HS1 := Lib.hid (sub_isV hsub)
          have HS2 := Lib.hid (sub_isV hsub2)
          have hm := Lib.hid (nthV_mem hlt)
          have hm2 := Lib.hid (nthV_mem hlt2)
          clear hsub hsub2 hels hels2 hBall
          obtain ⟨q, hq⟩ : ∃ q, rawV (nthV v.ps k) (nthV u.ps k) = q := ⟨_, rfl⟩
          go_wp2_with fail
          go_still_tail 10, (by kernel_rfl)
          obtain ⟨w2, hw2⟩ : ∃ w2, w2 = wr.drew := ⟨_, rfl⟩
          have hB2 : Below wr.heap.size wr w2 := by rw [hw2]; exact (Below.refl _ _).drew
          change wpList _ _ _ _ _ wr.drew
          rw [← hw2]
          have hz2 := hB2.size
          have hc := HIH.out (nthV v.ps k) (nthV u.ps k) _ _ B w2 (by have := size_part hm.out; omega) (HS1.out.below (hB2.mono (by omega))) (HS2.out.below (hB2.mono (by omega))) (by omega) (ok_part HOK.out hm.out) (ok_part HOK2.out hm2.out)
          rw [hq] at hc
          have HB2 := Lib.hid hB2
          have HC := Lib.hid hc
          clear hB2 hw2 hc e0 e1 e2 e3 g0 g1 g2 g3 hc3 hd3
          go_wp2_with fail
          refine HC.out.mono ?_
          clear HC
          rintro e W3 ⟨rfl, hb3⟩
          have HB3 := Lib.hid hb3
          clear hb3
          have hBl : Hid (Below W0.heap.size W0 W3) := Lib.hid (HBw.out.trans ((HB2.out.trans (HB3.out.mono (by omega))).mono (by omega)))
          have hst := rawVs_drop hlt hlt2
          rw [hq, HQ.out] at hst
          cases q with
          | true =>
            have hst2 := Lib.hid (show rawVs (v.ps.drop (k + 1)) (u.ps.drop (k + 1)) = rawV v u by rw [hst]; rfl)
            clear hst
            go_wp2_with fail
            go_roundw
            case rel => exact ⟨k + 1, by omega, by go_num, hst2.out, hBl.out⟩
            case measure => simp [intOf]; omega
          | false =>
            have hst2 := Lib.hid (show rawV v u = false by rw [hst]; rfl)
            clear hst
            go_wp2_with fail
            go_ret
            exact ⟨ret_bool hst2.out.symm, HB0.out.trans (hBl.out.mono (by omega))⟩
        · have hfin := Lib.hid (show rawV v u = true from by rw [← HQ.out, rawVs_end hlt])
          go_wp2_with fail
          go_ret
          exact ⟨ret_bool hfin.out.symm, HB0.out.trans (HBw.out.mono (by omega))⟩
end Go.Proofs.YtnddcicadmbmkaaGreatDoor
