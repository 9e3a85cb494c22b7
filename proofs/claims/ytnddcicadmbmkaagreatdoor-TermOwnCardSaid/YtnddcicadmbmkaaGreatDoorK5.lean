/- The document's store, in plain Lean, and that it goes with the program's. The document's store goes with the program's: put, get. Plain. The document's store in memory; con (func 47). The document's put (func 42). The document's put, whole (42), Put (22), Get (29). -/
import Derived.Test.YtnddcicadmbmkaaGreatDoorK
import Derived.Test.YtnddcicadmbmkaaGreatDoorE6
import Derived.Test.YtnddcicadmbmkaaGreatDoorL1
import Derived.Test.YtnddcicadmbmkaaGreatDoorA8
import Derived.StillTailTactics
import Derived.Deep.RegionHeld3
import Derived.Deep.AppendLies
namespace Go.Proofs.YtnddcicadmbmkaaGreatDoor
open Go.RowKit Go.Maps

theorem back_kind {f : Nat} {st : St} {k n : Int} {a : V} (h : backV f st k n = some a) : a.k = k := by
  cases f with
  | zero => unfold backV at h; cases h
  | succ f =>
    unfold backV at h
    by_cases h1 : k = 1
    · rw [if_pos h1] at h; obtain rfl := Option.some.inj h; exact h1.symm
    · rw [if_neg h1] at h
      by_cases h2 : k = 2
      · rw [if_pos h2] at h
        by_cases hn : 0 ≤ n
        · rw [if_pos hn] at h
          cases hd : st.1[n.toNat]? with
          | none => rw [hd] at h; simp at h
          | some d => rw [hd] at h; obtain rfl := Option.some.inj h; exact h2.symm
        · rw [if_neg hn] at h; cases h
      · rw [if_neg h2] at h
        by_cases h3 : k = 3
        · rw [if_pos h3] at h
          by_cases hn : 0 ≤ n
          · rw [if_pos hn] at h
            cases hd : st.2[n.toNat]? with
            | none => rw [hd] at h; simp at h
            | some d =>
              rw [hd] at h
              simp only [Option.bind_some] at h
              cases hl : leadVs (backV f st) d.2 with
              | none => rw [hl] at h; simp at h
              | some ps => rw [hl] at h; obtain rfl := Option.some.inj h; exact h3.symm
          · rw [if_neg hn] at h; cases h
        · rw [if_neg h3] at h; cases h
abbrev RS := List ByteArray × List V
/-- the first of C that stands with v; -1 -/
def conN : List V → V → Int
  | [], _ => -1
  | x :: r, v => if standV x v = 0 then 0 else if conN r v = -1 then -1 else conN r v + 1
theorem conN_ge : ∀ (C : List V) (v : V), -1 ≤ conN C v
  | [], _ => by unfold conN; omega
  | x :: r, v => by
    have := conN_ge r v
    unfold conN
    split
    · omega
    · split <;> omega
theorem conN_le : ∀ (C : List V) (v : V), conN C v < C.length
  | [], _ => by unfold conN; simp
  | x :: r, v => by
    have := conN_le r v
    unfold conN
    split
    · simp
    · split
      · simp; omega
      · simp; omega
theorem conN_at : ∀ {C : List V} {v : V} {k : Nat}, k < C.length → (∀ j, j < k → standV (nthV C j) v ≠ 0) → standV (nthV C k) v = 0 → conN C v = k
  | [], _, _, h, _, _ => by simp at h
  | x :: r, v, 0, _, _, h0 => by
    have h0 : standV x v = 0 := h0
    unfold conN; rw [if_pos h0]; rfl
  | x :: r, v, k + 1, hk, hlo, h0 => by
    have h1 : standV x v ≠ 0 := hlo 0 (by omega)
    have h2 := conN_at (C := r) (v := v) (k := k) (by simpa using hk) (fun j hj => hlo (j + 1) (by omega)) h0
    unfold conN
    rw [if_neg h1, h2, if_neg (by omega)]
    rfl
theorem conN_none : ∀ {C : List V} {v : V}, (∀ j, j < C.length → standV (nthV C j) v ≠ 0) → conN C v = -1
  | [], _, _ => by unfold conN; rfl
  | x :: r, v, hlo => by
    have h1 : standV x v ≠ 0 := hlo 0 (by simp)
    have h2 := conN_none (C := r) (v := v) (fun j hj => hlo (j + 1) (by simpa using hj))
    unfold conN
    rw [if_neg h1, if_pos h2]
theorem conN_idx {v : V} {x : Nd} : ∀ {C : List V} {N : List Nd}, C.length = N.length → (∀ (i : Nat) (c : V) (nd : Nd), C[i]? = some c → N[i]? = some nd → (standV c v = 0 ↔ nd = x)) → conN C v = if nhas N x then (nidx N x : Int) else -1
  | [], [], _, _ => by unfold conN nhas; rfl
  | [], _ :: _, h, _ => by simp at h
  | _ :: _, [], h, _ => by simp at h
  | c :: C, nd :: N, h, hp => by
    have h0 := hp 0 c nd rfl rfl
    have ih := conN_idx (C := C) (N := N) (by simpa using h) (fun i c nd h1 h2 => hp (i + 1) c nd (by simpa using h1) (by simpa using h2))
    unfold conN nhas nidx
    by_cases e : nd = x
    · rw [if_pos (h0.2 e), if_pos e, if_pos e]; rfl
    · rw [if_neg (fun h => e (h0.1 h)), if_neg e, if_neg e, ih]
      by_cases hh : nhas N x = true
      · rw [if_pos hh, if_pos hh, if_neg (by omega)]; omega
      · rw [if_neg hh, if_neg hh, if_pos rfl]
mutual
/-- a value's number, the error, the document's store behind it -/
def rputV : V → RS → Int × Int × RS
  | .mk k n s ps, st =>
    if k = 1 then (n, 0, st)
    else if k = 2 then (Sy.pN st.1 s, Sy.pE st.1 s, (Sy.pL st.1 s, st.2))
    else if (rputVs ps st).1 ≠ 0 then (0, (rputVs ps st).1, (rputVs ps st).2)
    else if 0 ≤ conN (rputVs ps st).2.2 (.mk k n s ps) then (conN (rputVs ps st).2.2 (.mk k n s ps), 0, (rputVs ps st).2)
    else if 16384 ≤ (rputVs ps st).2.2.length then (0, 18, (rputVs ps st).2)
    else ((rputVs ps st).2.2.length, 0, ((rputVs ps st).2.1, (rputVs ps st).2.2 ++ [.mk k n s ps]))
def rputVs : List V → RS → Int × RS
  | [], st => (0, st)
  | x :: r, st => if (rputV x st).2.1 ≠ 0 then ((rputV x st).2.1, (rputV x st).2.2) else rputVs r (rputV x st).2.2
end
mutual
theorem back_mono : ∀ (f g : Nat) (st : St) (k n : Int) (a : V), backV f st k n = some a → f ≤ g → backV g st k n = some a
  | 0, _, _, _, _, _, h, _ => by unfold backV at h; cases h
  | f + 1, g, st, k, n, a, h, hg => by
    obtain ⟨g, rfl⟩ : ∃ e, g = e + 1 := ⟨g - 1, by omega⟩
    unfold backV at h ⊢
    by_cases h1 : k = 1
    · rw [if_pos h1] at h ⊢; exact h
    · rw [if_neg h1] at h ⊢
      by_cases h2 : k = 2
      · rw [if_pos h2] at h ⊢; exact h
      · rw [if_neg h2] at h ⊢
        by_cases h3 : k = 3
        · rw [if_pos h3] at h ⊢
          by_cases hn : 0 ≤ n
          · rw [if_pos hn] at h ⊢
            cases hd : st.2[n.toNat]? with
            | none => rw [hd] at h; simp at h
            | some d =>
              rw [hd] at h
              simp only [Option.bind_some] at h ⊢
              cases hl : leadVs (backV f st) d.2 with
              | none => rw [hl] at h; simp at h
              | some ps => rw [hl] at h; rw [lead_mono f g st d.2 ps hl (by omega)]; exact h
          · rw [if_neg hn] at h; cases h
        · rw [if_neg h3] at h; cases h
termination_by f => (f, 0)
theorem lead_mono : ∀ (f g : Nat) (st : St) (l : List (Int × Int)) (ps : List V), leadVs (backV f st) l = some ps → f ≤ g → leadVs (backV g st) l = some ps
  | f, g, st, [], ps, h, _ => by unfold leadVs at h ⊢; exact h
  | f, g, st, p :: r, ps, h, hg => by
    unfold leadVs at h ⊢
    cases h1 : backV f st p.1 p.2 with
    | none => rw [h1] at h; simp at h
    | some y =>
      cases h2 : leadVs (backV f st) r with
      | none => rw [h1, h2] at h; simp at h
      | some q =>
        rw [h1, h2] at h
        rw [back_mono f g st p.1 p.2 y h1 hg, lead_mono f g st r q h2 hg]
        exact h
termination_by f _ _ l => (f, l.length + 1)
end

mutual
theorem back_ext : ∀ (f : Nat) (st st' : St) (k n : Int) (a : V), Ext st st' → backV f st k n = some a → backV f st' k n = some a
  | 0, _, _, _, _, _, _, h => by unfold backV at h; cases h
  | f + 1, st, st', k, n, a, he, h => by
    obtain ⟨⟨x, hx⟩, ⟨y, hy⟩⟩ := id he
    unfold backV at h ⊢
    by_cases h1 : k = 1
    · rw [if_pos h1] at h ⊢; exact h
    · rw [if_neg h1] at h ⊢
      by_cases h2 : k = 2
      · rw [if_pos h2] at h ⊢
        by_cases hn : 0 ≤ n
        · rw [if_pos hn] at h ⊢
          cases hd : st.1[n.toNat]? with
          | none => rw [hd] at h; simp at h
          | some d => rw [hx, ext_at hd]; rw [hd] at h; exact h
        · rw [if_neg hn] at h; cases h
      · rw [if_neg h2] at h ⊢
        by_cases h3 : k = 3
        · rw [if_pos h3] at h ⊢
          by_cases hn : 0 ≤ n
          · rw [if_pos hn] at h ⊢
            cases hd : st.2[n.toNat]? with
            | none => rw [hd] at h; simp at h
            | some d =>
              rw [hd] at h
              rw [hy, ext_at hd]
              simp only [Option.bind_some] at h ⊢
              cases hl : leadVs (backV f st) d.2 with
              | none => rw [hl] at h; simp at h
              | some ps => rw [hl] at h; rw [lead_ext f st st' d.2 ps he hl]; exact h
          · rw [if_neg hn] at h; cases h
        · rw [if_neg h3] at h; cases h
termination_by f => (f, 0)
theorem lead_ext : ∀ (f : Nat) (st st' : St) (l : List (Int × Int)) (ps : List V), Ext st st' → leadVs (backV f st) l = some ps → leadVs (backV f st') l = some ps
  | f, st, st', [], ps, _, h => by unfold leadVs at h ⊢; exact h
  | f, st, st', p :: r, ps, he, h => by
    unfold leadVs at h ⊢
    cases h1 : backV f st p.1 p.2 with
    | none => rw [h1] at h; simp at h
    | some y =>
      cases h2 : leadVs (backV f st) r with
      | none => rw [h1, h2] at h; simp at h
      | some q =>
        rw [h1, h2] at h
        rw [back_ext f st st' p.1 p.2 y he h1, lead_ext f st st' r q he h2]
        exact h
termination_by f _ _ l => (f, l.length + 1)
end
theorem nodup_at {α : Type} {l : List α} (h : l.Nodup) {i j : Nat} {a : α} (hi : l[i]? = some a) (hj : l[j]? = some a) : i = j := by
  obtain ⟨h1, h2⟩ := List.getElem?_eq_some_iff.1 hi
  obtain ⟨h3, h4⟩ := List.getElem?_eq_some_iff.1 hj
  rcases Nat.lt_trichotomy i j with hlt | heq | hgt
  · exact absurd (h2.trans h4.symm) (List.pairwise_iff_getElem.1 h i j h1 h3 hlt)
  · exact heq
  · exact absurd (h4.trans h2.symm) (List.pairwise_iff_getElem.1 h j i h3 h1 hgt)
def Uniq (st : St) : Prop := st.1.Nodup ∧ st.2.Nodup
mutual
theorem back_inj : ∀ (f : Nat) (st : St) (k n k' n' : Int) (a : V), Uniq st → backV f st k n = some a → backV f st k' n' = some a → k = k' ∧ n = n'
  | 0, _, _, _, _, _, _, _, h, _ => by unfold backV at h; cases h
  | f + 1, st, k, n, k', n', a, hu, h, h' => by
    have e := back_kind h
    have e' := back_kind h'
    have hk : k = k' := e.symm.trans e'
    subst hk
    refine ⟨rfl, ?_⟩
    unfold backV at h h'
    by_cases h1 : k = 1
    · rw [if_pos h1] at h h'
      have := (Option.some.inj h).trans (Option.some.inj h').symm
      simpa using this
    · rw [if_neg h1] at h h'
      by_cases h2 : k = 2
      · rw [if_pos h2] at h h'
        by_cases hn : 0 ≤ n
        · by_cases hn' : 0 ≤ n'
          · rw [if_pos hn] at h
            rw [if_pos hn'] at h'
            cases hd : st.1[n.toNat]? with
            | none => rw [hd] at h; simp at h
            | some d =>
              cases hd' : st.1[n'.toNat]? with
              | none => rw [hd'] at h'; simp at h'
              | some d' =>
                rw [hd] at h
                rw [hd'] at h'
                have := (Option.some.inj h).trans (Option.some.inj h').symm
                have hdd : d = d' := by simpa using this
                subst hdd
                have := nodup_at hu.1 hd hd'
                omega
          · rw [if_neg hn'] at h'; cases h'
        · rw [if_neg hn] at h; cases h
      · rw [if_neg h2] at h h'
        by_cases h3 : k = 3
        · rw [if_pos h3] at h h'
          by_cases hn : 0 ≤ n
          · by_cases hn' : 0 ≤ n'
            · rw [if_pos hn] at h
              rw [if_pos hn'] at h'
              cases hd : st.2[n.toNat]? with
              | none => rw [hd] at h; simp at h
              | some d =>
                cases hd' : st.2[n'.toNat]? with
                | none => rw [hd'] at h'; simp at h'
                | some d' =>
                  rw [hd] at h
                  rw [hd'] at h'
                  simp only [Option.bind_some] at h h'
                  cases hl : leadVs (backV f st) d.2 with
                  | none => rw [hl] at h; simp at h
                  | some ps =>
                    cases hl' : leadVs (backV f st) d'.2 with
                    | none => rw [hl'] at h'; simp at h'
                    | some ps' =>
                      rw [hl] at h
                      rw [hl'] at h'
                      have := (Option.some.inj h).trans (Option.some.inj h').symm
                      simp at this
                      obtain ⟨e1, e2⟩ := this
                      subst e2
                      have e3 := lead_inj f st d.2 d'.2 ps hu hl hl'
                      have hdd : d = d' := Prod.ext e1 e3
                      subst hdd
                      have := nodup_at hu.2 hd hd'
                      omega
            · rw [if_neg hn'] at h'; cases h'
          · rw [if_neg hn] at h; cases h
        · rw [if_neg h3] at h; cases h
termination_by f => (f, 0)
theorem lead_inj : ∀ (f : Nat) (st : St) (l l' : List (Int × Int)) (ps : List V), Uniq st → leadVs (backV f st) l = some ps → leadVs (backV f st) l' = some ps → l = l'
  | f, st, [], l', ps, hu, h, h' => by
    unfold leadVs at h
    obtain rfl := Option.some.inj h
    have := (lead_at h').1
    exact (List.eq_nil_of_length_eq_zero this.symm).symm
  | f, st, p :: r, [], ps, hu, h, h' => by
    unfold leadVs at h'
    obtain rfl := Option.some.inj h'
    have := (lead_at h).1
    simp at this
  | f, st, p :: r, p' :: r', ps, hu, h, h' => by
    unfold leadVs at h h'
    cases h1 : backV f st p.1 p.2 with
    | none => rw [h1] at h; simp at h
    | some y =>
      cases h2 : leadVs (backV f st) r with
      | none => rw [h1, h2] at h; simp at h
      | some q =>
        cases h1' : backV f st p'.1 p'.2 with
        | none => rw [h1'] at h'; simp at h'
        | some y' =>
          cases h2' : leadVs (backV f st) r' with
          | none => rw [h1', h2'] at h'; simp at h'
          | some q' =>
            rw [h1, h2] at h
            rw [h1', h2'] at h'
            have := (Option.some.inj h).trans (Option.some.inj h').symm
            simp at this
            obtain ⟨e1, e2⟩ := this
            subst e1 e2
            obtain ⟨e3, e4⟩ := back_inj f st p.1 p.2 p'.1 p'.2 y hu h1 h1'
            rw [lead_inj f st r r' q hu h2 h2', Prod.ext e3 e4]
termination_by f _ l => (f, l.length + 1)
end

theorem nthV_some : ∀ {l : List V} {k : Nat}, k < l.length → l[k]? = some (nthV l k)
  | [], _, h => by simp at h
  | x :: r, 0, _ => rfl
  | x :: r, k + 1, hk => nthV_some (l := r) (by simpa using hk)
def Rel (st : St) (rs : RS) : Prop := rs.1 = st.1 ∧ rs.2.length = st.2.length ∧ (∀ (i : Nat) (v : V), rs.2[i]? = some v → backV v.sz st 3 i = some v ∧ ∃ d, mayV v d = true) ∧ Uniq st
theorem Rel.nil : Rel ([], []) ([], []) := ⟨rfl, rfl, fun i v h => by simp at h, by simp [Uniq]⟩
theorem szV (k n : Int) (s : ByteArray) (ps : List V) : (V.mk k n s ps).sz = szL ps + 1 := by unfold V.sz; omega
theorem back_node {g : Nat} {st : St} {i : Nat} {a : V} (h : backV (g + 1) st 3 i = some a) : ∃ nd ps, st.2[i]? = some nd ∧ leadVs (backV g st) nd.2 = some ps ∧ a = .mk 3 0 nd.1 ps := by
  rw [back_con g st i (by omega), Int.toNat_natCast] at h
  cases hd : st.2[i]? with
  | none => rw [hd] at h; simp at h
  | some nd =>
    rw [hd] at h
    simp only [Option.bind_some] at h
    cases hl : leadVs (backV g st) nd.2 with
    | none => rw [hl] at h; simp at h
    | some ps => rw [hl] at h; exact ⟨nd, ps, rfl, hl, (Option.some.inj h).symm⟩
theorem node_lead {g : Nat} {st : St} {i : Nat} {nd : Nd} {ps : List V} (hd : st.2[i]? = some nd) (hl : leadVs (backV g st) nd.2 = some ps) : backV (g + 1) st 3 i = some (.mk 3 0 nd.1 ps) := by
  rw [back_con g st i (by omega), Int.toNat_natCast, hd]
  simp [hl]
theorem con_key {st : St} {rs : RS} {s : ByteArray} {ps : List V} {q : List (Int × Int)} {d : Int} {f : Nat} (hr : Rel st rs) (hm : mayV (.mk 3 0 s ps) d = true) (hq : leadVs (backV f st) q = some ps) :
    conN rs.2 (.mk 3 0 s ps) = if nhas st.2 (s, q) then (nidx st.2 (s, q) : Int) else -1 := by
  refine conN_idx hr.2.1 (fun i c nd hc hn => ⟨fun hz => ?_, fun e => ?_⟩)
  · obtain ⟨hb, d', hm'⟩ := hr.2.2.1 i c hc
    have := stand_same c _ d' d hm' hm hz
    subst this
    rw [szV] at hb
    obtain ⟨nd', ps', h1, h2, h3⟩ := back_node hb
    rw [hn] at h1
    obtain rfl := Option.some.inj h1
    simp at h3
    obtain ⟨e1, e2⟩ := h3
    subst e2
    have := lead_inj (szL ps + f) st nd.2 q ps hr.2.2.2 (lead_mono _ _ _ _ _ h2 (by omega)) (lead_mono _ _ _ _ _ hq (by omega))
    exact Prod.ext e1.symm this
  · subst e
    obtain ⟨hb, d', hm'⟩ := hr.2.2.1 i c hc
    obtain ⟨g, hg⟩ : ∃ g, c.sz = g + 1 := by cases c; exact ⟨_, szV _ _ _ _⟩
    rw [hg] at hb
    obtain ⟨nd', ps', h1, h2, h3⟩ := back_node hb
    rw [hn] at h1
    obtain rfl := Option.some.inj h1
    have e1 := lead_mono _ (g + f) _ _ _ h2 (by omega)
    rw [lead_mono _ (g + f) _ _ _ hq (by omega)] at e1
    obtain rfl := Option.some.inj e1
    rw [h3]
    exact stand_self _
theorem pL_nodup {L : List ByteArray} (s : ByteArray) (h : L.Nodup) : (Sy.pL L s).Nodup := by
  unfold Sy.pL
  by_cases h1 : Sy.hasB L s = true
  · rw [if_pos h1]; exact h
  · rw [if_neg h1]
    split
    · exact h
    · have h2 : s ∉ L := fun h3 => h1 (Sy.hasB_iff.2 h3)
      refine List.pairwise_append.2 ⟨h, by simp, fun a ha b hb => ?_⟩
      simp at hb
      subst hb
      exact fun e => h2 (e ▸ ha)
theorem may_con3 {k n : Int} {s : ByteArray} {ps : List V} {d : Int} (h : mayV (.mk k n s ps) d = true) (h1 : k ≠ 1) (h2 : k ≠ 2) : k = 3 ∧ n = 0 ∧ mayVs ps (d + 1) = true := by
  unfold mayV at h
  rw [if_neg h1, if_neg h2] at h
  by_cases h3 : k = 3
  · rw [if_pos h3] at h
    simp only [Bool.and_eq_true, decide_eq_true_eq] at h
    exact ⟨h3, h.1.1.1.1, h.2⟩
  · rw [if_neg h3] at h; cases h
mutual
theorem agree_put : ∀ (v : V) (d : Int) (st : St) (rs : RS), mayV v d = true → Rel st rs → (rputV v rs).1 = (putV v st).1 ∧ (rputV v rs).2.1 = (putV v st).2.1 ∧ Rel (putV v st).2.2 (rputV v rs).2.2
  | .mk k n s ps, d, st, rs, hm, hr => by
    have hm0 := hm
    unfold rputV putV
    by_cases h1 : k = 1
    · simp only [if_pos h1]; exact ⟨by trivial, by trivial, hr⟩
    · by_cases h2 : k = 2
      · simp only [if_neg h1, if_pos h2, hr.1]
        refine ⟨by trivial, by trivial, rfl, hr.2.1, fun i v hi => ?_, pL_nodup s hr.2.2.2.1, hr.2.2.2.2⟩
        obtain ⟨a, b⟩ := hr.2.2.1 i v hi
        exact ⟨back_ext _ _ _ _ _ _ ⟨pL_ext _ _, ⟨[], by simp⟩⟩ a, b⟩
      · obtain ⟨rfl, rfl, hm2⟩ := may_con3 hm h1 h2
        obtain ⟨he, hr1⟩ := agree_puts ps (d + 1) st rs hm2 hr
        simp only [if_neg h1, if_neg h2, he]
        by_cases h4 : (putVs ps st).2.1 ≠ 0
        · simp only [if_pos h4]; exact ⟨by trivial, by trivial, hr1⟩
        · simp only [if_neg h4]
          have h5 : (putVs ps st).2.1 = 0 := by simpa using h4
          have hl := puts_back ps (d + 1) st _ (szL ps) hm2 h5 (Ext.refl _) (Nat.le_refl _)
          have hck := con_key hr1 hm0 hl
          unfold nput
          by_cases hh : nhas (putVs ps st).2.2.2 (s, (putVs ps st).1) = true
          · rw [if_pos hh] at hck ⊢
            rw [if_pos (by rw [hck]; omega), hck]
            exact ⟨by trivial, by trivial, hr1⟩
          · rw [if_neg hh] at hck ⊢
            rw [if_neg (by rw [hck]; omega), hr1.2.1]
            by_cases hf : 16384 ≤ (putVs ps st).2.2.2.length
            · simp only [if_pos hf]; exact ⟨by trivial, by trivial, hr1⟩
            · simp only [if_neg hf]
              refine ⟨by trivial, by trivial, hr1.1, by simp [hr1.2.1], fun i v hi => ?_, hr1.2.2.2.1, ?_⟩
              · have hext : Ext (putVs ps st).2.2 ((putVs ps st).2.2.1, (putVs ps st).2.2.2 ++ [(s, (putVs ps st).1)]) := ⟨⟨[], by simp⟩, ⟨_, rfl⟩⟩
                by_cases hil : i < (rputVs ps rs).2.2.length
                · rw [List.getElem?_append_left hil] at hi
                  obtain ⟨a, b⟩ := hr1.2.2.1 i v hi
                  exact ⟨back_ext _ _ _ _ _ _ hext a, b⟩
                · rw [List.getElem?_append_right (by omega)] at hi
                  have hi0 : i = (putVs ps st).2.2.2.length := by
                    have := (List.getElem?_eq_some_iff.1 hi).1
                    have := hr1.2.1
                    simp at *
                    omega
                  have hi1 : i - (rputVs ps rs).2.2.length = 0 := by have := hr1.2.1; omega
                  rw [hi1] at hi
                  simp at hi
                  subst hi
                  refine ⟨?_, d, hm0⟩
                  rw [szV]
                  exact node_lead (nd := (s, (putVs ps st).1)) (by rw [hi0]; simp) (lead_ext _ _ _ _ _ hext hl)
              · refine List.pairwise_append.2 ⟨hr1.2.2.2.2, by simp, fun a ha b hb => ?_⟩
                simp at hb
                subst hb
                exact fun e => hh (nhas_iff.2 (e ▸ ha))
theorem agree_puts : ∀ (l : List V) (d : Int) (st : St) (rs : RS), mayVs l d = true → Rel st rs → (rputVs l rs).1 = (putVs l st).2.1 ∧ Rel (putVs l st).2.2 (rputVs l rs).2
  | [], _, st, rs, _, hr => by unfold rputVs putVs; exact ⟨by trivial, hr⟩
  | x :: r, d, st, rs, hm, hr => by
    unfold mayVs at hm
    simp only [Bool.and_eq_true] at hm
    obtain ⟨_, e2, r1⟩ := agree_put x d st rs hm.1 hr
    unfold rputVs putVs
    simp only [e2]
    by_cases h4 : (putV x st).2.1 ≠ 0
    · simp only [if_pos h4]; exact ⟨by trivial, r1⟩
    · simp only [if_neg h4]; exact agree_puts r d _ _ hm.2 r1
end
theorem idx_nodup {L : List ByteArray} {s : ByteArray} {n : Nat} (hu : L.Nodup) (h : L[n]? = some s) : Sy.hasB L s = true ∧ Sy.idx L s = n := by
  have h1 : Sy.hasB L s = true := Sy.hasB_iff.2 (List.mem_of_getElem? h)
  exact ⟨h1, nodup_at hu (idx_at h1) h⟩
theorem nidx_nodup {L : List Nd} {s : Nd} {n : Nat} (hu : L.Nodup) (h : L[n]? = some s) : nhas L s = true ∧ nidx L s = n := by
  have h1 : nhas L s = true := nhas_iff.2 (List.mem_of_getElem? h)
  exact ⟨h1, nodup_at hu (nidx_at h1) h⟩
mutual
theorem get_of_back : ∀ (f : Nat) (st : St) (k n : Int) (a : V), Uniq st → backV f st k n = some a → getV a st = (n, 0, st)
  | 0, _, _, _, _, _, h => by unfold backV at h; cases h
  | f + 1, st, k, n, a, hu, h => by
    unfold backV at h
    by_cases h1 : k = 1
    · rw [if_pos h1] at h
      obtain rfl := Option.some.inj h
      unfold getV
      rw [if_pos rfl]
    · rw [if_neg h1] at h
      by_cases h2 : k = 2
      · rw [if_pos h2] at h
        by_cases hn : 0 ≤ n
        · rw [if_pos hn] at h
          cases hd : st.1[n.toNat]? with
          | none => rw [hd] at h; simp at h
          | some t =>
            rw [hd] at h
            obtain rfl := Option.some.inj h
            obtain ⟨a1, a2⟩ := idx_nodup hu.1 hd
            unfold getV
            rw [if_neg (by omega), if_pos rfl, if_pos a1, Sy.num_yes (Sy.hasB_iff.1 a1), a2, Int.toNat_of_nonneg hn]
        · rw [if_neg hn] at h; cases h
      · rw [if_neg h2] at h
        by_cases h3 : k = 3
        · rw [if_pos h3] at h
          by_cases hn : 0 ≤ n
          · rw [if_pos hn] at h
            cases hd : st.2[n.toNat]? with
            | none => rw [hd] at h; simp at h
            | some nd =>
              rw [hd] at h
              simp only [Option.bind_some] at h
              cases hl : leadVs (backV f st) nd.2 with
              | none => rw [hl] at h; simp at h
              | some ps =>
                rw [hl] at h
                obtain rfl := Option.some.inj h
                have hg := gets_of_lead f st nd.2 ps hu hl
                obtain ⟨a1, a2⟩ := nidx_nodup hu.2 hd
                unfold getV
                rw [hg, if_neg (by omega), if_neg (by omega), if_neg (by simp)]
                simp only
                rw [if_pos a1, a2, Int.toNat_of_nonneg hn]
          · rw [if_neg hn] at h; cases h
        · rw [if_neg h3] at h; cases h
termination_by f => (f, 0)
theorem gets_of_lead : ∀ (f : Nat) (st : St) (l : List (Int × Int)) (ps : List V), Uniq st → leadVs (backV f st) l = some ps → getVs ps st = (l, 0, st)
  | f, st, [], ps, hu, h => by
    unfold leadVs at h
    obtain rfl := Option.some.inj h
    unfold getVs; rfl
  | f, st, p :: r, ps, hu, h => by
    unfold leadVs at h
    cases h1 : backV f st p.1 p.2 with
    | none => rw [h1] at h; simp at h
    | some y =>
      cases h2 : leadVs (backV f st) r with
      | none => rw [h1, h2] at h; simp at h
      | some q =>
        rw [h1, h2] at h
        obtain rfl := Option.some.inj h
        have e1 := get_of_back f st p.1 p.2 y hu h1
        have e2 := gets_of_lead f st r q hu h2
        unfold getVs
        rw [e1, if_neg (by simp)]
        simp only
        rw [e2, back_kind h1]
termination_by f _ l => (f, l.length + 1)
end
mutual
theorem get_back : ∀ (v : V) (d : Int) (st : St), mayV v d = true → (getV v st).2.1 = 0 → backV v.sz st v.k (getV v st).1 = some v
  | .mk k n s ps, d, st, hm, h0 => by
    rw [szV]
    show backV (szL ps + 1) st k _ = _
    have hm0 := hm
    unfold getV at h0 ⊢
    unfold mayV at hm
    by_cases h1 : k = 1
    · rw [if_pos h1] at hm ⊢
      simp at hm
      obtain ⟨rfl, rfl⟩ := hm
      subst h1
      exact back_num _ _ _
    · rw [if_neg h1] at hm h0 ⊢
      by_cases h2 : k = 2
      · rw [if_pos h2] at hm h0 ⊢
        simp at hm
        obtain ⟨⟨rfl, rfl⟩, _⟩ := hm
        subst h2
        by_cases hh : Sy.hasB st.1 s = true
        · rw [if_pos hh]
          show backV _ st 2 ((Sy.num st.1 s : Nat) : Int) = _
          rw [back_sym, Sy.num_yes (Sy.hasB_iff.1 hh), idx_at hh]
          rfl
        · rw [if_neg hh] at h0; simp at h0
      · obtain ⟨rfl, rfl, hm2⟩ := may_con3 hm0 h1 h2
        rw [if_neg h2] at h0 ⊢
        by_cases h4 : (getVs ps st).2.1 ≠ 0
        · rw [if_pos h4] at h0; exact absurd h0 h4
        · rw [if_neg h4] at h0 ⊢
          have h5 : (getVs ps st).2.1 = 0 := by simpa using h4
          rw [getVs_st] at h0 ⊢
          by_cases hh : nhas st.2 (s, (getVs ps st).1) = true
          · rw [if_pos hh]
            exact node_lead (nd := (s, (getVs ps st).1)) (nidx_at hh) (gets_back ps (d + 1) st hm2 h5)
          · rw [if_neg hh] at h0; simp at h0
theorem gets_back : ∀ (l : List V) (d : Int) (st : St), mayVs l d = true → (getVs l st).2.1 = 0 → leadVs (backV (szL l) st) (getVs l st).1 = some l
  | [], _, st, _, _ => by unfold getVs leadVs; rfl
  | x :: r, d, st, hm, h0 => by
    have hsz : szL (x :: r) = x.sz + szL r := by rw [szL]
    unfold mayVs at hm
    simp only [Bool.and_eq_true] at hm
    unfold getVs at h0 ⊢
    by_cases h4 : (getV x st).2.1 ≠ 0
    · rw [if_pos h4] at h0; exact absurd h0 h4
    · rw [if_neg h4] at h0 ⊢
      have h5 : (getV x st).2.1 = 0 := by simpa using h4
      rw [getV_st] at h0 ⊢
      have e1 := back_mono _ (szL (x :: r)) _ _ _ _ (get_back x d st hm.1 h5) (by omega)
      have e2 := lead_mono _ (szL (x :: r)) _ _ _ (gets_back r d st hm.2 h0) (by omega)
      unfold leadVs
      rw [e1, e2]
end
theorem agree_get (v : V) (d : Int) (st : St) (rs : RS) (hm : mayV v d = true) (h3 : v.k = 3) (hr : Rel st rs) :
    ((getV v st).2.1 = 0 → conN rs.2 v = (getV v st).1) ∧ ((getV v st).2.1 ≠ 0 → conN rs.2 v = -1 ∧ (getV v st).1 = 0) := by
  cases v with
  | mk k n s ps =>
    have h3 : k = 3 := h3
    obtain ⟨_, rfl, hm2⟩ := may_con3 hm (by omega) (by omega)
    subst h3
    have hg : getV (.mk 3 0 s ps) st = if (getVs ps st).2.1 ≠ 0 then (0, (getVs ps st).2.1, (getVs ps st).2.2) else if nhas (getVs ps st).2.2.2 (s, (getVs ps st).1) then ((nidx (getVs ps st).2.2.2 (s, (getVs ps st).1) : Int), 0, (getVs ps st).2.2) else (0, 6, (getVs ps st).2.2) := by
      unfold getV; rw [if_neg (by omega), if_neg (by omega)]
    rw [hg]
    by_cases h4 : (getVs ps st).2.1 ≠ 0
    · rw [if_pos h4]
      refine ⟨fun h => absurd h h4, fun _ => ⟨conN_none (fun j hj hz => ?_), rfl⟩⟩
      have hc : rs.2[j]? = some (nthV rs.2 j) := nthV_some hj
      obtain ⟨hb, d', hm'⟩ := hr.2.2.1 j _ hc
      have := stand_same _ _ d' d hm' hm hz
      rw [this, szV] at hb
      obtain ⟨nd, ps', h5, h6, h7⟩ := back_node hb
      simp at h7
      obtain ⟨_, rfl⟩ := h7
      have := gets_of_lead _ st nd.2 ps hr.2.2.2 h6
      rw [this] at h4
      simp at h4
    · rw [if_neg h4]
      have h5 : (getVs ps st).2.1 = 0 := by simpa using h4
      have hck := con_key hr hm (gets_back ps (d + 1) st hm2 h5)
      rw [getVs_st]
      by_cases hh : nhas st.2 (s, (getVs ps st).1) = true
      · rw [if_pos hh] at hck ⊢
        exact ⟨fun _ => hck, fun h => absurd rfl h⟩
      · rw [if_neg hh] at hck ⊢
        exact ⟨fun h => by simp at h, fun _ => ⟨hck, rfl⟩⟩

/-- block b is the document's store: the texts L, the constructors' values C (each with its slice); what they lie in is below B -/
structure RSto (B : Nat) (w : World) (b : Nat) (L : List ByteArray) (C : List (V × Value)) (rb cb : Option Nat) (tv cv : Value) : Prop where
  cells : w.heap[b]? = some (.cells #[tv, cv] 37 (0, 0))
  row : w.ownsRow (b + 1) 9 1 tv L.length (L.map Value.string)
  blk : tv.ownBlock = rb
  len : L.length ≤ 16384
  crow : w.ownsRow (b + 1) 24 4 cv C.length (C.flatMap cellsP)
  cblk : cv.ownBlock = cb
  clen : C.length ≤ 16384
  parts : ∀ p ∈ C, SubP (fun k => k < B) w p.1 p.2
  low : B ≤ b
  ok : ∀ p ∈ C, p.1.Ok
def RF (b : Nat) (rb cb : Option Nat) (k : Nat) : Prop := k = b ∨ rb = some k ∨ cb = some k
theorem own_kept {w w' : World} {B e size n : Nat} {v : Value} {xs : List Value} (h : w.ownsRow B e size v n xs) (hk : ∀ k, v.ownBlock = some k → w'.heap[k]? = w.heap[k]?) : w'.ownsRow B e size v n xs := by
  refine ⟨h.1, ?_⟩
  rcases h.2 with h2 | ⟨g, cap, cur, rfl, h3, h4, h5⟩
  · exact .inl h2
  · exact .inr ⟨g, cap, cur, rfl, h3, (hk g rfl).trans h4, h5⟩
theorem RSto.kept {S : Nat → Prop} {B : Nat} {w w' : World} {b : Nat} {L : List ByteArray} {C : List (V × Value)} {rb cb : Option Nat} {tv cv : Value} (h : RSto B w b L C rb cb tv cv) (hf : Sy.Fr S w w') (hs : ∀ k, RF b rb cb k → ¬ S k) (hl : ∀ k, k < B → ¬ S k) : RSto B w' b L C rb cb tv cv := by
  have hb := heap_lt h.cells
  refine ⟨?_, own_kept h.row (fun k hk => hf.block k (h.row.lt k hk).2 (hs k (.inr (.inl (h.blk ▸ hk))))), h.blk, h.len, own_kept h.crow (fun k hk => hf.block k (h.crow.lt k hk).2 (hs k (.inr (.inr (h.cblk ▸ hk))))), h.cblk, h.clen, fun p hp => (h.parts p hp).move (fun k hk => ⟨hk, fun j => World.cell?_of_block (a := ⟨k, j, none⟩) (hf.block k (by have := h.low; omega) (hl k hk))⟩), h.low, h.ok⟩
  rw [hf.block b hb (hs b (.inl rfl))]; exact h.cells
theorem RSto.new {B : Nat} {w w' : World} {b : Nat} {L : List ByteArray} {C : List (V × Value)} {rb cb : Option Nat} {tv cv : Value} (h : RSto B w b L C rb cb tv cv) (hb : Below w.heap.size w w') : RSto B w' b L C rb cb tv cv :=
  h.kept (Sy.Fr.of_below (S := fun _ => False) hb) (fun _ _ h => h) (fun _ _ h => h)
theorem RSto.rtab {B : Nat} {w : World} {b : Nat} {L : List ByteArray} {C : List (V × Value)} {rb cb : Option Nat} {tv cv : Value} (h : RSto B w b L C rb cb tv cv) : Sy.RTab w b L rb tv :=
  ⟨by rw [cell_of h.cells]; rfl, free_of h.cells, heap_lt h.cells, h.row, h.blk, h.len⟩
theorem RSto.c1 {B : Nat} {w : World} {b : Nat} {L : List ByteArray} {C : List (V × Value)} {rb cb : Option Nat} {tv cv : Value} (h : RSto B w b L C rb cb tv cv) : w.cell? ⟨b, 1, none⟩ = some cv := by rw [cell_of h.cells]; rfl
theorem RSto.slice {B : Nat} {w : World} {b : Nat} {L : List ByteArray} {C : List (V × Value)} {rb cb : Option Nat} {tv cv : Value} (h : RSto B w b L C rb cb tv cv) : ∃ a cap, cv = .slice a C.length cap := by
  rcases h.crow.2 with ⟨h1, h2⟩ | ⟨g, cap, cur, h1, _⟩
  · exact ⟨none, 0, by rw [h1, h2]⟩
  · exact ⟨_, cap, h1⟩
theorem RSto.elts {B : Nat} {w : World} {b : Nat} {L : List ByteArray} {C : List (V × Value)} {rb cb : Option Nat} {tv cv : Value} (h : RSto B w b L C rb cb tv cv) : C = [] ∨ ∃ g cap, cv = .slice (some ⟨g, 0, none⟩) C.length cap ∧ EltsP (fun k => k < B) w g 0 (C.map (·.1)) := by
  rcases h.crow.2 with ⟨_, h2⟩ | ⟨g, cap, cur, h1, _⟩
  · exact .inl (List.eq_nil_of_length_eq_zero h2)
  · refine .inr ⟨g, cap, h1, elts_done (fun j u hu => ?_) h.parts⟩
    have := h.crow.cells (g := g) (by rw [h1]; rfl) j u hu
    rw [Nat.zero_add]
    have hadd : (⟨g, 0, none⟩ : Addr).add j = ⟨g, j, none⟩ := by unfold Addr.add; split <;> simp_all
    rwa [hadd] at this
/-- the document's store -/
def RStor (B : Nat) (w : World) (b : Nat) (rs : RS) (rb cb : Option Nat) : Prop := ∃ C tv cv, C.map (·.1) = rs.2 ∧ RSto B w b rs.1 C rb cb tv cv

set_option maxRecDepth 100000 in
set_option maxHeartbeats 4000000 in
theorem rcon_any (B b : Nat) (L : List ByteArray) (C : List (V × Value)) (rb cb : Option Nat) (tv cv : Value) (v : V) (x : Value) (w : World) (hst : RSto B w b L C rb cb tv cv) (hx : IsV B w v x) (hok : v.Ok) :
    Calls Tryz.prog 47 #[.pointer (some ⟨b, 0, none⟩), x] w fun e w' => e = .returned (.int .i64 (conN (C.map (·.1)) v)) ∧ Below w.heap.size w w' := by
  have hbs := heap_lt hst.cells
  have hBb := hst.low
  have hclen := hst.clen
  obtain ⟨a2, cap2, rfl, hcap2, _⟩ := hx.open
  have hlen := ok_len hok
  obtain ⟨a, cap, rfl⟩ := hst.slice
  obtain ⟨W0, hW0⟩ : ∃ W0, W0 = w.alloc (.cells #[.int .i64 v.k, .int .i64 v.n, .string v.s, .slice a2 v.ps.length cap2] 24) := ⟨_, rfl⟩
  have hb0 : W0.heap[w.heap.size]? = some (.cells #[.int .i64 v.k, .int .i64 v.n, .string v.s, .slice a2 v.ps.length cap2] 24 (0, 0)) := by rw [hW0]; exact heap_alloc_new _ _
  have hB0 : Below w.heap.size w W0 := by rw [hW0]; exact (Below.refl _ _).alloc (Nat.le_refl _) _
  have hz0 : W0.heap.size = w.heap.size + 1 := by rw [hW0]; simp
  have HW0 := Lib.hid hW0
  have HB0 := Lib.hid hB0
  have Hb0 := Lib.hid hb0
  have HST := Lib.hid hst
  have HX := Lib.hid hx
  have HOK := Lib.hid hok
  have HZ0 := Lib.hid hz0
  clear hst hx hok hW0 hB0 hb0
  go_enter Tryz.func47, Tryz.ntmps47
  go_wp2_with fail
  rw [← HW0.out]
  go_loopw [5] (fun i wr => ∃ k : Nat, k ≤ C.length ∧ i = .int .i64 k ∧ (∀ j, j < k → standV (nthV (C.map (·.1)) j) v ≠ 0) ∧ Below W0.heap.size W0 wr) (fun i _ => C.length - (intOf i).toNat)
  case atStart => exact ⟨0, Nat.zero_le _, rfl, fun j hj => by omega, Below.refl _ _⟩
  case round =>
    obtain ⟨k, hk, rfl, hlo, hbw⟩ := hrel
    have HLO := Lib.hid hlo
    have HBW := Lib.hid hbw
    have hbz := hbw.size
    have HALL := Lib.hid (show Below w.heap.size w wr from HB0.out.trans (hbw.mono (by omega)))
    have HSTR := Lib.hid (HST.out.new HALL.out)
    have c1 := HSTR.out.c1
    clear hlo hbw
    by_cases hlt : k < C.length
    · obtain ⟨g, cap', hsv, hels⟩ := HSTR.out.elts.resolve_left (by intro e; rw [e] at hlt; simp at hlt)
      cases hsv
      have hlt' : k < (C.map (·.1)).length := by simpa using hlt
      obtain ⟨sl, e0, e1, e2, e3, hsub⟩ := hels.at hlt'
      obtain ⟨a5, cap5, rfl⟩ := subP_slice hsub
      obtain ⟨u, hu⟩ : ∃ u, nthV (C.map (·.1)) k = u := ⟨_, rfl⟩
      have HU := Lib.hid hu
      have huo : u.Ok := by
        have h1 : u ∈ C.map (·.1) := by rw [← hu]; exact nthV_mem hlt'
        obtain ⟨p, hp, rfl⟩ := List.mem_map.1 h1
        exact HSTR.out.ok p hp
      rw [hu] at e0 e1 e2 e3 hsub
      have HXU := Lib.hid (IsV.of_p (subP_isV hsub) (B := B) (fun _ h => h))
      have HUO := Lib.hid huo
      have hulen := ok_len huo
      obtain ⟨p0, p1, p2, p3⟩ := block4 ((HBW.out.block _ (by omega)).trans Hb0.out)
      rw [Nat.zero_add] at e0 e1 e2 e3
      clear hels hsub hu huo
      go_wp2_with fail
      go_still_tail 8, (by kernel_rfl)
      obtain ⟨w2, hw2⟩ : ∃ w2, w2 = wr.drew := ⟨_, rfl⟩
      have hB2 : Below wr.heap.size wr w2 := by rw [hw2]; exact (Below.refl _ _).drew
      change wpList _ _ _ _ _ wr.drew
      rw [← hw2]
      have hz2 := hB2.size
      have HB2 := Lib.hid hB2
      have hBB : B ≤ wr.heap.size := by omega
      have HXV := Lib.hid (HX.out.below (HALL.out.mono (show B ≤ w.heap.size by omega)))
      have hc := rstand_any (u.sz + 1) u v _ _ B w2 (Nat.lt_succ_self _) (HXU.out.below (hB2.mono hBB)) (HXV.out.below (hB2.mono hBB)) (by omega) HUO.out HOK.out
      obtain ⟨q, hq⟩ : ∃ q, standV u v = q := ⟨_, rfl⟩
      rw [hq] at hc
      have HC := Lib.hid hc
      have HQ := Lib.hid hq
      clear hB2 hw2 hc hq e0 e1 e2 e3 p0 p1 p2 p3 c1
      go_wp2_with fail
      refine HC.out.mono ?_
      rintro e W3 ⟨rfl, hb3⟩
      have HBL := Lib.hid (show Below W0.heap.size W0 W3 from HBW.out.trans ((HB2.out.trans (hb3.mono hz2)).mono (by omega)))
      clear HC hb3
      by_cases h0 : q = 0
      · have z1 : (q == 0) = true := by simp [h0]
        have hfin := Lib.hid (conN_at (C := C.map (·.1)) (v := v) hlt' HLO.out (by rw [HU.out, HQ.out]; exact h0))
        clear h0
        go_wp2_with fail
        go_ret
        exact ⟨ret_int hfin.out.symm, HB0.out.trans (HBL.out.mono (by have := HZ0.out; omega))⟩
      · have z1 : (q == 0) = false := by simp [h0]
        have H0 := Lib.hid h0
        clear h0
        go_wp2_with fail
        go_roundw
        case rel =>
          refine ⟨k + 1, by omega, by go_num, fun j hj => ?_, HBL.out⟩
          by_cases e : j = k
          · subst e; rw [HU.out, HQ.out]; exact H0.out
          · exact HLO.out j (by omega)
        case measure => simp [intOf]; omega
    · have hfin := Lib.hid (conN_none (C := C.map (·.1)) (v := v) (fun j hj => HLO.out j (by simp at hj; omega)))
      go_wp2_with fail
      go_ret
      exact ⟨ret_int hfin.out.symm, HALL.out⟩

def RPost (B b : Nat) (v : V) (rs : RS) (rb cb : Option Nat) (w : World) (e : Ending) (w' : World) : Prop :=
  e = .returned (.tuple #[.int .i64 (rputV v rs).1, .int .i64 (rputV v rs).2.1]) ∧ ∃ rb' cb', RStor B w' b (rputV v rs).2.2 rb' cb' ∧ Later w.heap.size rb rb' ∧ Later w.heap.size cb cb' ∧ Sy.Fr (RF b rb cb) w w'
theorem RSto.rows {B : Nat} {w : World} {b : Nat} {L : List ByteArray} {C : List (V × Value)} {rb cb : Option Nat} {tv cv : Value} (h : RSto B w b L C rb cb tv cv) : (∀ k, rb = some k → b + 1 ≤ k ∧ k < w.heap.size) ∧ (∀ k, cb = some k → b + 1 ≤ k ∧ k < w.heap.size) ∧ b < w.heap.size ∧ B ≤ b :=
  ⟨fun k hk => h.row.lt k (h.blk.trans hk), fun k hk => h.crow.lt k (h.cblk.trans hk), heap_lt h.cells, h.low⟩
theorem RStor.rows {B : Nat} {w : World} {b : Nat} {rs : RS} {rb cb : Option Nat} (h : RStor B w b rs rb cb) : (∀ k, rb = some k → b + 1 ≤ k ∧ k < w.heap.size) ∧ (∀ k, cb = some k → b + 1 ≤ k ∧ k < w.heap.size) ∧ b < w.heap.size ∧ B ≤ b := by
  obtain ⟨C, tv, cv, _, h⟩ := h
  exact h.rows
theorem RStor.new {B : Nat} {w w' : World} {b : Nat} {rs : RS} {rb cb : Option Nat} (h : RStor B w b rs rb cb) (hb : Below w.heap.size w w') : RStor B w' b rs rb cb := by
  obtain ⟨C, tv, cv, h1, h⟩ := h
  exact ⟨C, tv, cv, h1, h.new hb⟩
theorem RStor.apart {B : Nat} {w : World} {b : Nat} {rs : RS} {rb cb : Option Nat} (h : RStor B w b rs rb cb) {k : Nat} (hk : w.heap.size ≤ k) : ¬ RF b rb cb k := by
  have hr := h.rows
  rintro (e | e | e)
  · omega
  · have := hr.1 k e; omega
  · have := hr.2.1 k e; omega
theorem RStor.below {B' B : Nat} {w w' : World} {b : Nat} {rs : RS} {rb cb : Option Nat} (h : RStor B w b rs rb cb) (hf : Sy.Fr (RF b rb cb) w w') (hB : B' ≤ b) : Below B' w w' := by
  have hr := h.rows
  refine hf.below (by omega) (fun k hk => ?_)
  rcases hk with e | e | e
  · omega
  · have := hr.1 k e; omega
  · have := hr.2.1 k e; omega
theorem rfoot_later {b s k : Nat} {rb cb rb' cb' : Option Nat} (hr : Later s rb rb') (hc : Later s cb cb') (h : RF b rb' cb' k) : RF b rb cb k ∨ s ≤ k := by
  rcases h with e | e | e
  · exact .inl (.inl e)
  · rcases hr with h | ⟨g, h, hg⟩
    · exact .inl (.inr (.inl (h ▸ e)))
    · rw [h] at e; obtain rfl := Option.some.inj e; exact .inr hg
  · rcases hc with h | ⟨g, h, hg⟩
    · exact .inl (.inr (.inr (h ▸ e)))
    · rw [h] at e; obtain rfl := Option.some.inj e; exact .inr hg
theorem rfr_later {b : Nat} {w w1 w2 : World} {rb cb rb' cb' : Option Nat} (h1 : Sy.Fr (RF b rb cb) w w1) (hr : Later w.heap.size rb rb') (hc : Later w.heap.size cb cb') (h2 : Sy.Fr (RF b rb' cb') w1 w2) : Sy.Fr (RF b rb cb) w w2 := by
  have a : Sy.Fr (fun k => RF b rb cb k ∨ w.heap.size ≤ k) w w1 := h1.mono (fun k _ h => .inl h)
  have c : Sy.Fr (fun k => RF b rb cb k ∨ w.heap.size ≤ k) w1 w2 := h2.mono (fun k _ h => rfoot_later hr hc h)
  exact (a.trans c).mono (fun k hk h => by rcases h with h | h; exact h; omega)
theorem rputVs_drop {l : List V} {k : Nat} (h : k < l.length) (rs : RS) : rputVs (l.drop k) rs = if (rputV (nthV l k) rs).2.1 ≠ 0 then ((rputV (nthV l k) rs).2.1, (rputV (nthV l k) rs).2.2) else rputVs (l.drop (k + 1)) (rputV (nthV l k) rs).2.2 := by
  rw [drop_nth h, rputVs]
theorem rputVs_end {l : List V} {k : Nat} (h : ¬ k < l.length) (rs : RS) : rputVs (l.drop k) rs = (0, rs) := by
  rw [List.drop_eq_nil_of_le (by omega), rputVs]
theorem rputV_con (v : V) (rs : RS) (h1 : v.k ≠ 1) (h2 : v.k ≠ 2) : rputV v rs = if (rputVs v.ps rs).1 ≠ 0 then (0, (rputVs v.ps rs).1, (rputVs v.ps rs).2) else if 0 ≤ conN (rputVs v.ps rs).2.2 v then (conN (rputVs v.ps rs).2.2 v, 0, (rputVs v.ps rs).2) else if 16384 ≤ (rputVs v.ps rs).2.2.length then (0, 18, (rputVs v.ps rs).2) else (((rputVs v.ps rs).2.2.length : Int), 0, ((rputVs v.ps rs).2.1, (rputVs v.ps rs).2.2 ++ [v])) := by
  cases v
  simp only [V.k] at h1 h2
  unfold rputV
  rw [if_neg h1, if_neg h2]
  rfl
theorem ret_two {a b c d : Int} (h : a = b) (h2 : c = d) : Ending.returned (.tuple #[.int .i64 a, .int .i64 c]) = .returned (.tuple #[.int .i64 b, .int .i64 d]) := by rw [h, h2]
theorem by_same {G P : Prop} (h : G → P) (g : G) : P := h g
theorem step_store_mid {ops : Array Oper} {o : Oper} {a : Act} {w : World} {K : Act → World → Prop} {Q : Exit → Act → World → Prop} {E : Prop} (hg : o.guard = none) (ty : TypeId) (x y : Operand) (ho : o.op = .store ty x y)
    (b f : Nat) (cells : Array Value) (hx : a.eval x = .pointer (some ⟨b, f, none⟩)) (hy : a.eval y = .agg cells) (ht : w.there b f cells.size) (hi : (Tryz.prog.info? ty).map (·.size) = some cells.size) (h1 : cells.all (·.oneCell') = true)
    (h : K (a.put o.dst undef) (w.setCells b f cells.toList)) : if Region.wanted o (yielded ops a.tmps) = true then Oper.wp Tryz.prog o a w K Q else E := by
  rw [if_pos (by simp [Region.wanted, hg])]
  exact wp_store_mid ty x y ho b f cells hx hy ht hi h1 h
theorem there_set {w : World} {g o n : Nat} (h : w.there g o n) (p : Addr) (u : Value) : (w.setCell p u).there g o n := fun j hj => by
  obtain ⟨h1, h2⟩ := h j hj
  refine ⟨?_, by rw [World.frozen?_setCell]; exact h2⟩
  obtain ⟨x, hx⟩ := Option.isSome_iff_exists.1 h1
  obtain ⟨y, hy⟩ := cell?_setCell_some (p := p) (x := u) hx
  rw [hy]; rfl
theorem set4_other {w : World} {g o b : Nat} (hgb : b ≠ g) (x0 x1 x2 x3 : Value) {cs : Array Value} {t : TypeId} (h : w.heap[b]? = some (.cells cs t (0, 0))) : (w.setCells g o [x0, x1, x2, x3]).heap[b]? = some (.cells cs t (0, 0)) := by
  unfold World.setCells World.setCells World.setCells World.setCells World.setCells
  rw [Below.heap_setCell _ _ _ _ hgb, Below.heap_setCell _ _ _ _ hgb, Below.heap_setCell _ _ _ _ hgb, Below.heap_setCell _ _ _ _ hgb]
  exact h

def set4 (cur : Array Value) (o : Nat) (x0 x1 x2 x3 : Value) : Array Value := (((cur.set! o x0).set! (o + 1) x1).set! (o + 2) x2).set! (o + 3) x3
/-- what the two stores behind the append leave, in either order -/
structure Ends (b g o : Nat) (x0 x1 x2 x3 sv : Value) (w8 w9 : World) : Prop where
  fr : Sy.Fr (fun k => k = b ∨ k = g) w8 w9
  hb : ∀ (tv x : Value) (t : TypeId), w8.heap[b]? = some (.cells #[tv, x] t (0, 0)) → w9.heap[b]? = some (.cells #[tv, sv] t (0, 0))
  hg : ∀ (cur : Array Value) (t : TypeId), w8.heap[g]? = some (.cells cur t (0, 0)) → w9.heap[g]? = some (.cells (set4 cur o x0 x1 x2 x3) t (0, 0))
theorem set4_same {w : World} {g o : Nat} (x0 x1 x2 x3 : Value) {cs : Array Value} {t : TypeId} (h : w.heap[g]? = some (.cells cs t (0, 0))) : (w.setCells g o [x0, x1, x2, x3]).heap[g]? = some (.cells (set4 cs o x0 x1 x2 x3) t (0, 0)) := by
  unfold World.setCells World.setCells World.setCells World.setCells World.setCells
  rw [set_block (set_block (set_block (set_block h)))]
  rfl
theorem set4_fr {S : Nat → Prop} (w : World) {g : Nat} (o : Nat) (hg : S g) (x0 x1 x2 x3 : Value) : Sy.Fr S w (w.setCells g o [x0, x1, x2, x3]) := by
  unfold World.setCells World.setCells World.setCells World.setCells World.setCells
  exact (((Sy.Fr.of_setCell w (p := ⟨g, o, none⟩) hg x0).trans (Sy.Fr.of_setCell _ (p := ⟨g, o + 1, none⟩) hg x1)).trans (Sy.Fr.of_setCell _ (p := ⟨g, o + 1 + 1, none⟩) hg x2)).trans (Sy.Fr.of_setCell _ (p := ⟨g, o + 1 + 1 + 1, none⟩) hg x3)
theorem ends_A {b g o : Nat} {w8 : World} (hgb : b ≠ g) (x0 x1 x2 x3 sv : Value) : Ends b g o x0 x1 x2 x3 sv w8 ((w8.setCells g o [x0, x1, x2, x3]).setCell ⟨b, 1, none⟩ sv) := by
  refine ⟨(set4_fr w8 o (.inr rfl) _ _ _ _).trans (Sy.Fr.of_setCell _ (p := ⟨b, 1, none⟩) (.inl rfl) _), fun tv x t h => ?_, fun cur t h => ?_⟩
  · rw [set_block (set4_other hgb x0 x1 x2 x3 h)]; rfl
  · rw [Below.heap_setCell _ _ _ _ (show g ≠ b from fun e => hgb e.symm)]; exact set4_same _ _ _ _ h
theorem ends_B {b g o : Nat} {w8 : World} (hgb : b ≠ g) (x0 x1 x2 x3 sv : Value) : Ends b g o x0 x1 x2 x3 sv w8 ((w8.setCell ⟨b, 1, none⟩ sv).setCells g o [x0, x1, x2, x3]) := by
  refine ⟨(Sy.Fr.of_setCell _ (p := ⟨b, 1, none⟩) (.inl rfl) _).trans (set4_fr _ o (.inr rfl) _ _ _ _), fun tv x t h => ?_, fun cur t h => ?_⟩
  · refine set4_other hgb x0 x1 x2 x3 ?_
    rw [set_block h]; rfl
  · refine set4_same _ _ _ _ ?_
    rw [Below.heap_setCell _ _ _ _ (show g ≠ b from fun e => hgb e.symm)]; exact h
theorem set4_take {cur : Array Value} {F zs : List Value} {n : Nat} {x0 x1 x2 x3 : Value} (hF : F.length = n * 4) (hz : zs.length = 4) (ht : cur.toList.take ((n + 1) * 4) = F ++ zs) : (set4 cur (n * 4) x0 x1 x2 x3).toList.take ((n + 1) * 4) = F ++ [x0, x1, x2, x3] := by
  match zs, hz with
  | [z0, z1, z2, z3], _ =>
    unfold set4
    simp only [Array.set!_eq_setIfInBounds, Array.toList_setIfInBounds, List.take_set, ht]
    rw [List.set_append_right _ _ (by omega), List.set_append_right _ _ (by omega), List.set_append_right _ _ (by omega), List.set_append_right _ _ (by omega), hF]
    simp
theorem there_own {w8 : World} {b g n cap4 : Nat} {F zs : List Value} (_hF : F.length = n * 4) (h : w8.ownsRow b 24 4 (.slice (some ⟨g, 0, none⟩) (n + 1) cap4) (n + 1) (F ++ zs)) : w8.there g (n * 4) 4 := by
  rcases h.2 with ⟨h1, _⟩ | ⟨g', c', cur, h1, h2, h3, h4, h5, h6, h7⟩
  · cases h1
  · simp only [Value.slice.injEq, Option.some.injEq, Addr.mk.injEq, and_true, true_and] at h1
    obtain ⟨rfl, rfl⟩ := h1
    intro j hj
    have hz : (n + 1) * 4 ≤ cur.size := by rw [h6]; exact Nat.mul_le_mul_right 4 h4
    exact ⟨by rw [cell_of h3, Array.getElem?_eq_getElem (by omega)]; rfl, free_of h3⟩
theorem RSto.con_put {B : Nat} {w D : World} {b : Nat} {L : List ByteArray} {C : List (V × Value)} {rb cb : Option Nat} {tv : Value} {ac : Option Addr} {capc : Nat} (h : RSto B w b L C rb cb tv (.slice ac C.length capc)) (hD : D = w.drew) (v : V) (sl : Value) (hv : SubP (fun k => k < B) w v sl) (hok : v.Ok) (hfew : C.length < 16384) (o : Obj)
    {w8 : World} {g cap4 : Nat} (hg8 : (D.alloc o).grownBy w8 (Value.slice ac C.length capc).ownBlock) {zs : List Value} (hzs : zs.length = 4) (hown8 : w8.ownsRow (b + 1) 24 4 (.slice (some ⟨g, 0, none⟩) (C.length + 1) cap4) (C.length + 1) (C.flatMap cellsP ++ zs))
    (hat : (Value.slice ac C.length capc).ownBlock = some g ∨ g = (D.alloc o).heap.size) {w9 : World} (he : Ends b g (C.length * 4) (.int .i64 v.k) (.int .i64 v.n) (.string v.s) sl (.slice (some ⟨g, 0, none⟩) (C.length + 1) cap4) w8 w9) :
    RSto B w9 b L (C ++ [(v, sl)]) rb (some g) tv (.slice (some ⟨g, 0, none⟩) (C.length + 1) cap4) ∧ Later w.heap.size cb (some g) ∧ Sy.Fr (RF b rb cb) w w9 := by
  have hr := h.rows
  subst hD
  have hz : (w.drew.alloc o).heap.size = w.heap.size + 1 := by simp
  have hcb : (Value.slice ac C.length capc).ownBlock = cb := h.cblk
  have hgle : cb = some g ∨ w.heap.size ≤ g := by
    rcases hat with e | e
    · exact .inl (hcb.symm.trans e)
    · exact .inr (by omega)
  have hFr : Sy.Fr (RF b rb cb) w w9 := by
    have a1 : Sy.Fr (fun k => RF b rb cb k ∨ w.heap.size ≤ k) w w8 := ((Sy.Fr.of_below (Below.refl w.heap.size w).drew).trans (Sy.Fr.of_alloc _ _ _)).trans (Sy.Fr.of_grown hg8 (fun k hk => .inl (.inr (.inr (hcb ▸ hk)))))
    have a2 : Sy.Fr (fun k => RF b rb cb k ∨ w.heap.size ≤ k) w8 w9 := he.fr.mono (fun k _ hk => by
      rcases hk with rfl | rfl
      · exact .inl (.inl rfl)
      · rcases hgle with e | e
        · exact .inl (.inr (.inr e))
        · exact .inr e)
    exact (a1.trans a2).mono (fun k hk h => by rcases h with h | h; exact h; omega)
  have h8 : ∀ k, k < w.heap.size → cb ≠ some k → w8.heap[k]? = w.heap[k]? := fun k hk hc => by
    rw [hg8.block k (by omega) (fun e => hc (hcb ▸ e.symm)), heap_alloc_old _ _ (show k < w.drew.heap.size from hk)]; rfl
  have hb8 := (h8 b hr.2.2.1 (fun e => by have := hr.2.1 b e; omega)).trans h.cells
  have hrb : ∀ k, rb = some k → k ≠ g ∧ cb ≠ some k := fun k hk => by
    have hne : cb ≠ some k := fun e => by
      rcases h.row.2 with ⟨h1, _⟩ | ⟨g1, c1, u1, h1, _, h3, _⟩
      · rw [← h.blk, h1] at hk; simp [Value.ownBlock] at hk
      · rcases h.crow.2 with ⟨h1', _⟩ | ⟨g2, c2, u2, h1', _, h3', _⟩
        · rw [← h.cblk, h1'] at e; simp [Value.ownBlock] at e
        · have e1 : g1 = k := by rw [← h.blk, h1] at hk; simpa [Value.ownBlock] using hk
          have e2 : g2 = k := by rw [← h.cblk, h1'] at e; simpa [Value.ownBlock] using e
          subst e1; subst e2
          rw [h3] at h3'
          simp at h3'
    refine ⟨fun e => ?_, hne⟩
    rcases hgle with e2 | e2
    · exact hne (e ▸ e2)
    · have := hr.1 k hk; omega
  have hlow : ∀ k, k < B → w9.heap[k]? = w.heap[k]? := fun k hk => hFr.block k (by omega) (by
    rintro (e | e | e)
    · omega
    · have := hr.1 k e; omega
    · have := hr.2.1 k e; omega)
  refine ⟨⟨he.hb _ _ _ hb8, ?_, h.blk, h.len, ?_, rfl, by simp; omega, ?_, h.low, ?_⟩, ?_, hFr⟩
  · refine own_kept h.row (fun k hk => ?_)
    have hk' := h.blk ▸ hk
    have h1 := hrb k hk'
    have h2 := hr.1 k hk'
    have h3 := h8 k h2.2 h1.2
    rw [he.fr.block k (by have := hg8.size; omega) (by rintro (e | e); omega; exact h1.1 e)]
    exact h3
  · rcases hown8.2 with ⟨h1, _⟩ | ⟨g', c', cur, h1, h2, h3, h4, h5, h6, h7⟩
    · cases h1
    · simp only [Value.slice.injEq, Option.some.injEq, Addr.mk.injEq, and_true, true_and] at h1
      obtain ⟨rfl, rfl⟩ := h1
      have hlen : (C.flatMap cellsP).length = C.length * 4 := h.crow.1
      refine ⟨by simp [hlen, cellsP]; omega, .inr ⟨_, _, _, by simp, h2, he.hg _ _ h3, by simpa using h4, h5, by simpa [set4] using h6, ?_⟩⟩
      rw [List.length_append, List.flatMap_append]
      exact set4_take hlen hzs h7
  · intro p hp
    have hm : ∀ {u : V} {s : Value}, SubP (fun k => k < B) w u s → SubP (fun k => k < B) w9 u s := fun hs => hs.move (fun k hk => ⟨hk, fun j => World.cell?_of_block (a := ⟨k, j, none⟩) (hlow k hk)⟩)
    rcases List.mem_append.1 hp with hp | hp
    · exact hm (h.parts p hp)
    · rw [List.mem_singleton.1 hp]; exact hm hv
  · intro p hp
    rcases List.mem_append.1 hp with hp | hp
    · exact h.ok p hp
    · rw [List.mem_singleton.1 hp]; exact hok
  · rcases hgle with e | e
    · exact .inl e.symm
    · exact .inr ⟨g, rfl, e⟩

set_option maxRecDepth 100000 in
set_option maxHeartbeats 4000000 in
theorem rput_con (B b : Nat) (v : V) (x : Value) (d : Int) (rs : RS) (rb cb : Option Nat) (w : World) (hst : RStor B w b rs rb cb) (hx : IsVP (fun k => k < B) w v x) (hok : v.Ok) (_hmay : mayV v d = true) (h3 : v.k = 3)
    (hrec : ∀ y ∈ v.ps, ∀ (z : Value) (rs : RS) (rb cb : Option Nat) (w : World), RStor B w b rs rb cb → IsVP (fun k => k < B) w y z → Calls Tryz.prog 42 #[.pointer (some ⟨b, 0, none⟩), z] w (RPost B b y rs rb cb w)) :
    Calls Tryz.prog 42 #[.pointer (some ⟨b, 0, none⟩), x] w (RPost B b v rs rb cb w) := by
  obtain ⟨a, cap, rfl, hcap, hel⟩ := hx.open
  have hrows := hst.rows
  have hlen := ok_len hok
  have HX := Lib.hid hx
  have HOK := Lib.hid hok
  have HST := Lib.hid hst
  have HE := Lib.hid hel
  have HREC := Lib.hid hrec
  obtain ⟨W0, hW0⟩ : ∃ W0, W0 = w.alloc (.cells #[.int .i64 v.k, .int .i64 v.n, .string v.s, .slice a v.ps.length cap] 24) := ⟨_, rfl⟩
  have hb0 : W0.heap[w.heap.size]? = some (.cells #[.int .i64 v.k, .int .i64 v.n, .string v.s, .slice a v.ps.length cap] 24 (0, 0)) := by rw [hW0]; exact heap_alloc_new _ _
  have hB0 : Below w.heap.size w W0 := by rw [hW0]; exact (Below.refl _ _).alloc (Nat.le_refl _) _
  have hz0 : W0.heap.size = w.heap.size + 1 := by rw [hW0]; simp
  have HZ0 := Lib.hid hz0
  have HW0 := Lib.hid hW0
  have Hb0 := Lib.hid hb0
  have HB0 := Lib.hid hB0
  have HS0 := Lib.hid (hst.new hB0)
  have HF0 := Lib.hid (Sy.Fr.of_below (S := RF b rb cb) hB0)
  have hk1 : (v.k == 1) = false := by simp [h3]
  have hk2 : (v.k == 2) = false := by simp [h3]
  have HP := Lib.hid (rputV_con v rs (by omega) (by omega))
  clear h3 hst hel hx hok hrec hW0 hB0 hb0 hz0
  go_enter Tryz.func42, Tryz.ntmps42
  go_wp2_with fail
  rw [← HW0.out]
  go_loopw [6] (fun i wr => ∃ (k : Nat) (rsk : RS) (rbk cbk : Option Nat), k ≤ v.ps.length ∧ i = .int .i64 k ∧ RStor B wr b rsk rbk cbk ∧ Later w.heap.size rb rbk ∧ Later w.heap.size cb cbk ∧ Sy.Fr (RF b rb cb) w wr ∧ w.heap.size + 1 ≤ wr.heap.size ∧
      wr.heap[w.heap.size]? = some (.cells #[.int .i64 v.k, .int .i64 v.n, .string v.s, .slice a v.ps.length cap] 24 (0, 0)) ∧ ¬ RF b rbk cbk w.heap.size ∧ rputVs (v.ps.drop k) rsk = rputVs v.ps rs) (fun i _ => v.ps.length - (intOf i).toNat)
  case atStart => exact ⟨0, rs, rb, cb, Nat.zero_le _, rfl, HS0.out, .inl rfl, .inl rfl, HF0.out, by have := HZ0.out; omega, Hb0.out, HST.out.apart (Nat.le_refl _), rfl⟩
  case round =>
    obtain ⟨k, rsk, rbk, cbk, hk, rfl, hsk, hlr, hlc, hfr, hsz, hbx, hap, hpt⟩ := hrel
    have HSK := Lib.hid hsk
    have HLR := Lib.hid hlr
    have HLC := Lib.hid hlc
    have HFR := Lib.hid hfr
    have HBX := Lib.hid hbx
    have HAP := Lib.hid hap
    have HPT := Lib.hid hpt
    have HBW := Lib.hid (HST.out.below hfr hrows.2.2.2)
    obtain ⟨p0, p1, p2, p3⟩ := block4 hbx
    clear hsk hlr hlc hfr hbx hap hpt
    by_cases hlt : k < v.ps.length
    · obtain ⟨be, off, rfl, hbB, hels⟩ := HE.out.resolve_left (by intro e; rw [e] at hlt; simp at hlt)
      obtain ⟨sl, e0, e1, e2, e3, hsub⟩ := (hels.move (Q := fun k => k < B) (w' := wr) (fun k hk => ⟨hk, fun j => World.cell?_of_block (a := ⟨k, j, none⟩) (HBW.out.block k hk)⟩) hbB).at hlt
      obtain ⟨a2, cap2, rfl⟩ := subP_slice hsub
      have HS := Lib.hid (subP_isV hsub)
      have hm := Lib.hid (nthV_mem hlt)
      clear hsub hels
      have HC := Lib.hid (HREC.out _ hm.out _ rsk rbk cbk wr HSK.out HS.out)
      have hpd := rputVs_drop hlt rsk
      go_wp2_with fail
      refine HC.out.mono ?_
      rintro e W3 ⟨rfl, rb', cb', hst3, hl1, hl2, hfr3⟩
      have hz3 := hfr3.size
      have HB3 := Lib.hid (hfr3.block _ (heap_lt HBX.out) HAP.out |>.trans HBX.out)
      have HAP3 := Lib.hid (show ¬ RF b rb' cb' w.heap.size from fun h => by
        rcases rfoot_later hl1 hl2 h with h | h
        · exact HAP.out h
        · omega)
      have HLR3 := Lib.hid (HLR.out.trans hl1 (by omega))
      have HLC3 := Lib.hid (HLC.out.trans hl2 (by omega))
      have HFR3 := Lib.hid (rfr_later HFR.out HLR.out HLC.out hfr3)
      have HST3 := Lib.hid hst3
      obtain ⟨er, her⟩ : ∃ er, (rputV (nthV v.ps k) rsk).2.1 = er := ⟨_, rfl⟩
      rw [her] at hpd
      rw [her]
      have HPD := Lib.hid (hpd.symm.trans HPT.out)
      clear hst3 hl1 hl2 hfr3 HC hpd her e0 e1 e2 e3 p0 p1 p2 p3
      by_cases he : er = 0
      · have z1 : (er != 0) = false := by simp [he]
        have HEZ := Lib.hid he
        clear he
        go_wp2_with fail
        go_roundw
        case rel =>
          have hpd := HPD.out
          rw [if_neg (by simp [HEZ.out])] at hpd
          exact ⟨k + 1, _, rb', cb', by omega, by go_num, HST3.out, HLR3.out, HLC3.out, HFR3.out, by omega, HB3.out, HAP3.out, hpd⟩
        case measure => simp [intOf]; omega
      · have z1 : (er != 0) = true := by simp [he]
        have HEZ := Lib.hid he
        clear he
        go_wp2_with fail
        go_ret2
        have hpd := HPD.out
        rw [if_pos HEZ.out] at hpd
        have hp := HP.out
        rw [← hpd, if_pos HEZ.out] at hp
        exact ⟨by rw [hp]; rfl, rb', cb', by rw [hp]; exact HST3.out, HLR3.out, HLC3.out, HFR3.out⟩
    · have hend := rputVs_end hlt rsk
      rw [HPT.out] at hend
      have hp := HP.out
      rw [hend, if_neg (by simp)] at hp
      simp only at hp
      have HPP := Lib.hid hp
      have HXV := Lib.hid (IsV.of_p (HX.out.blocks (fun j hj => HBW.out.block j hj)) (B := B) (fun _ h => h))
      obtain ⟨C, tv, cv, hC, hsto⟩ := HSK.out
      have HCC := Lib.hid hC
      have HSTO := Lib.hid hsto
      clear hend hp hC hsto
      go_wp2_with fail
      refine (rcon_any B b rsk.1 C rbk cbk tv cv v _ wr HSTO.out HXV.out HOK.out).mono ?_
      rintro e W3 ⟨rfl, hb3⟩
      rw [HCC.out]
      have HST3 := Lib.hid (HSTO.out.new hb3)
      have HB3 := Lib.hid ((hb3.block _ (heap_lt HBX.out)).trans HBX.out)
      have HFR3 := Lib.hid (HFR.out.trans (Sy.Fr.of_below (S := RF b rb cb) hb3))
      have hz3 := hb3.size
      have hB3l : Below B wr W3 := hb3.mono (by omega)
      clear hb3 p0 p1 p2 p3
      obtain ⟨n, hn⟩ : ∃ n, conN rsk.2 v = n := ⟨_, rfl⟩
      have hge := conN_ge rsk.2 v
      rw [hn] at hge
      rw [hn]
      have HN := Lib.hid hn
      clear hn
      by_cases h0 : 0 ≤ n
      · have z1 : decide (0 ≤ n) = true := by simp [h0]
        go_wp2_with fail
        go_ret2
        have hp := HPP.out
        rw [HN.out, if_pos h0] at hp
        exact ⟨by rw [hp]; rfl, rbk, cbk, by rw [hp]; exact ⟨C, tv, cv, HCC.out, HST3.out⟩, HLR.out, HLC.out, HFR3.out⟩
      · have z1 : decide (0 ≤ n) = false := by simp [h0]
        have c1 := HST3.out.c1
        have hcl := HST3.out.clen
        obtain ⟨ac, capc, rfl⟩ := HST3.out.slice
        by_cases hf : 16384 ≤ C.length
        · go_wp2_with fail
          go_ret2
          have hp := HPP.out
          rw [HN.out, if_neg (by omega), if_pos (by have := congrArg List.length HCC.out; simp at this; omega)] at hp
          exact ⟨by rw [hp]; rfl, rbk, cbk, by rw [hp]; exact ⟨C, _, _, HCC.out, HST3.out⟩, HLR.out, HLC.out, HFR3.out⟩
        · go_wp2_with fail
          obtain ⟨D, hD⟩ : ∃ D, D = W3.drew := ⟨_, rfl⟩
          have hDz : D.heap.size = W3.heap.size := by rw [hD]; rfl
          have hDh : ∀ k : Nat, D.heap[k]? = W3.heap[k]? := fun k => by rw [hD]; rfl
          have hbW := heap_lt HST3.out.cells
          have hxW := heap_lt HB3.out
          obtain ⟨i7, hi7, hz7, hs7, hy7⟩ := info24
          have L22 := Lib.hid (load22 (show D.cell? ⟨b, 1, none⟩ = some (.slice ac C.length capc) from by rw [cell_of ((hDh b).trans HST3.out.cells)]; rfl))
          have L22A := Lib.hid (load22 (show (D.alloc (.cells #[.int .i64 0, .int .i64 0, .string ⟨#[]⟩, .slice none 0 0] 24)).cell? ⟨b, 1, none⟩ = some (.slice ac C.length capc) from by rw [cell_of ((heap_alloc_old D _ (by omega)).trans ((hDh b).trans HST3.out.cells))]; rfl))
          have L24 := Lib.hid (load24 ((hDh w.heap.size).trans HB3.out))
          have L24A := Lib.hid (load24 ((heap_alloc_old D (.cells #[.int .i64 0, .int .i64 0, .string ⟨#[]⟩, .slice none 0 0] 24) (show w.heap.size < D.heap.size by omega)).trans ((hDh w.heap.size).trans HB3.out)))
          have B24 := Lib.hid (build24 D (.int .i64 0) (.int .i64 0) (.string ⟨#[]⟩) (.slice none 0 0))
          have HROW := Lib.hid (show (D.alloc (.cells #[.int .i64 0, .int .i64 0, .string ⟨#[]⟩, .slice none 0 0] 24)).ownsRow (b + 1) 24 4 (.slice ac C.length capc) C.length (C.flatMap cellsP) from (own_kept HST3.out.crow (fun k _ => hDh k) : D.ownsRow (b + 1) 24 4 (.slice ac C.length capc) C.length (C.flatMap cellsP)).alloc _)
          have HNEWS := Lib.hid (show ∀ (j : Nat) (u : Value), [Value.int .i64 0, .int .i64 0, .string ⟨#[]⟩, .slice none 0 0][j]? = some u → (D.alloc (.cells #[.int .i64 0, .int .i64 0, .string ⟨#[]⟩, .slice none 0 0] 24)).cell? ((⟨D.heap.size, 0, none⟩ : Addr).add j) = some u from fun j u hu => World.news_of_block (heap_alloc_new D (.cells #[.int .i64 0, .int .i64 0, .string ⟨#[]⟩, .slice none 0 0] 24)) j u (by simpa using hu))
          have hbase : b + 1 ≤ (D.alloc (.cells #[.int .i64 0, .int .i64 0, .string ⟨#[]⟩, .slice none 0 0] 24)).heap.size := by simp; omega
          have HGB := Lib.hid (show ∀ (w8 : World) (g cap4 : Nat), w8.ownsRow (b + 1) 24 4 (.slice (some ⟨g, 0, none⟩) (C.length + 1) cap4) (C.length + 1) (C.flatMap cellsP ++ [Value.int .i64 0, .int .i64 0, .string ⟨#[]⟩, .slice none 0 0]) → b ≠ g from fun w8 g cap4 h => by
            have := (h.lt g rfl).1
            omega)
          have HC4 := Lib.hid (show ∀ (w8 : World) (g cap4 : Nat), (D.alloc (.cells #[.int .i64 0, .int .i64 0, .string ⟨#[]⟩, .slice none 0 0] 24)).grownBy w8 (Value.slice ac C.length capc).ownBlock → w8.ownsRow (b + 1) 24 4 (.slice (some ⟨g, 0, none⟩) (C.length + 1) cap4) (C.length + 1) (C.flatMap cellsP ++ [Value.int .i64 0, .int .i64 0, .string ⟨#[]⟩, .slice none 0 0]) → w8.heap[b]? = some (.cells #[tv, .slice ac C.length capc] 37 (0, 0)) ∧ w8.there g (C.length * 4) 4 from fun w8 g cap4 hg ho => ⟨by
            rw [hg.block b (by simp; omega) (fun e => by have := (HST3.out.crow.lt b e.symm).1; omega), heap_alloc_old D _ (by omega), hDh b]
            exact HST3.out.cells, there_own HST3.out.crow.1 ho⟩)
          have HEND := Lib.hid (show ∀ (w8 : World) (g cap4 : Nat), (D.alloc (.cells #[.int .i64 0, .int .i64 0, .string ⟨#[]⟩, .slice none 0 0] 24)).grownBy w8 (Value.slice ac C.length capc).ownBlock → w8.ownsRow (b + 1) 24 4 (.slice (some ⟨g, 0, none⟩) (C.length + 1) cap4) (C.length + 1) (C.flatMap cellsP ++ [Value.int .i64 0, .int .i64 0, .string ⟨#[]⟩, .slice none 0 0]) → ((Value.slice ac C.length capc).ownBlock = some g ∨ g = (D.alloc (.cells #[.int .i64 0, .int .i64 0, .string ⟨#[]⟩, .slice none 0 0] 24)).heap.size) → ∀ {w9 : World}, Ends b g (C.length * 4) (.int .i64 v.k) (.int .i64 v.n) (.string v.s) (.slice a v.ps.length cap) (.slice (some ⟨g, 0, none⟩) (C.length + 1) cap4) w8 w9 → _ from fun w8 g cap4 hg ho hat w9 he => HST3.out.con_put hD v (.slice a v.ps.length cap) (by
            obtain ⟨sl, e, hs⟩ := HX.out.blocks (w' := W3) (fun j hj => (hB3l.block j hj).trans (HBW.out.block j hj))
            simp at e
            subst e
            exact hs) HOK.out (by omega) _ hg rfl ho hat he)
          have hlc : rsk.2.length = C.length := by rw [← HCC.out]; simp
          have hpv := HPP.out
          rw [HN.out, if_neg (by omega), if_neg (by omega), hlc] at hpv
          have HPV := Lib.hid hpv
          have HFIN := Lib.hid (show ∀ (w9 : World) (g cap4 : Nat), RSto B w9 b rsk.1 (C ++ [(v, .slice a v.ps.length cap)]) rbk (some g) tv (.slice (some ⟨g, 0, none⟩) (C.length + 1) cap4) → Later W3.heap.size cbk (some g) → Sy.Fr (RF b rbk cbk) W3 w9 → ∃ rb' cb', RStor B w9 b (rputV v rs).2.2 rb' cb' ∧ Later w.heap.size rb rb' ∧ Later w.heap.size cb cb' ∧ Sy.Fr (RF b rb cb) w w9 from fun w9 g cap4 h1 h2 h3 => ⟨rbk, some g, by rw [hpv]; exact ⟨_, _, _, by rw [List.map_append, HCC.out]; rfl, h1⟩, HLR.out, HLC.out.trans h2 (by omega), rfr_later HFR3.out HLR.out HLC.out h3⟩)
          clear hpv c1 hDz hDh hlc
          refine wp_region_noPanic ?_
          refine wp_region_any (by kernel_rfl) ?_
          change wpAny _ _ _ _ _ _ _ W3.drew
          rw [← hD]
          refine wpAny_take (i := 0) (oi := { dst := some 58, op := Op.move (Operand.tmp 0), type := 70, pos := "ref.go:225", after := #[], guard := none }) (v := .pointer (some ⟨b, 0, none⟩)) rfl (by kernel_rfl) (by kernel_rfl) (by kernel_rfl) (fun c a w h => (h : False).elim) (Or.inl ⟨by rfl, ?_⟩) ?_
          · intro w
            go_simp
          (try simp only [Act.put, List.setIfInBounds_toArray, List.set_cons_zero, List.set_cons_succ])
          refine wpAny_take (i := 1) (oi := { dst := some 59, op := Op.nilCheck (Operand.tmp 58), type := 0, pos := "ref.go:225", after := #[{ on := 0, ground := Ground.data }], guard := none }) (v := .pointer (some ⟨b, 0, none⟩)) rfl (by kernel_rfl) (by kernel_rfl) (by kernel_rfl) (fun c a w h => (h : False).elim) (Or.inl ⟨by rfl, ?_⟩) ?_
          · intro w
            go_simp
          (try simp only [Act.put, List.setIfInBounds_toArray, List.set_cons_zero, List.set_cons_succ])
          refine wpAny_take (i := 2) (oi := { dst := some 60, op := Op.fieldAddr 37 (Operand.tmp 59) 1, type := 0, pos := "ref.go:225", after := #[{ on := 1, ground := Ground.data }], guard := none }) (v := .pointer (some ⟨b, 1, none⟩)) rfl (by kernel_rfl) (by kernel_rfl) (by kernel_rfl) (fun c a w h => (h : False).elim) (Or.inl ⟨by rfl, ?_⟩) ?_
          · intro w
            go_simp
          (try simp only [Act.put, List.setIfInBounds_toArray, List.set_cons_zero, List.set_cons_succ])
          apply by_same
          case h =>
            intro H
            refine wpAny_ready (rs := [3, 4, 6]) (by kernel_rfl) (by simp) ?_
            refine (AllReady.cons (o := { dst := some 61, op := Op.load 22 (Operand.tmp 60), type := 22, pos := "ref.go:225", after := #[{ on := 2, ground := Ground.data }], guard := none }) rfl (fun K hK => ?_) (AllReady.cons (o := { dst := some 62, op := Op.load 24 (Operand.tmp 3), type := 24, pos := "ref.go:225", after := #[], guard := none }) rfl (fun K hK => ?_) (AllReady.cons (o := { dst := some 64, op := Op.buildSlice 22 1 #[(0, Operand.const (Value.agg #[Value.int IntKind.i64 0, Value.int IntKind.i64 0, Value.string { data := #[] }, Value.slice none 0 0]))], type := 22, pos := "ref.go:225", after := #[], guard := none }) rfl (fun K hK => ?_) AllReady.nil)))
            · refine step_load rfl 22 (.tmp 60) rfl _ _ (by rfl) L22.out ?_
              refine hK _ _ ?_
              clear hK K
              (try simp only [Act.put, List.setIfInBounds_toArray, List.set_cons_zero, List.set_cons_succ])
              refine wpAny_take (i := 5) (oi := { dst := some 63, op := Op.call { callee := Callee.builtin Builtin.len, args := #[Operand.tmp 61], argTypes := #[22] }, type := 3, pos := "ref.go:225", after := #[{ on := 3, ground := Ground.data }], guard := none }) (v := .int .i64 C.length) rfl (by kernel_rfl) (by kernel_rfl) (by kernel_rfl) (fun c a w h => (h : False).elim) (Or.inl ⟨by rfl, ?_⟩) ?_
              · intro w
                go_simp
              (try simp only [Act.put, List.setIfInBounds_toArray, List.set_cons_zero, List.set_cons_succ])
              refine wpAny_ready (rs := [4, 6]) (by kernel_rfl) (by simp) ?_
              refine (AllReady.cons (o := { dst := some 62, op := Op.load 24 (Operand.tmp 3), type := 24, pos := "ref.go:225", after := #[], guard := none }) rfl (fun K hK => ?_) (AllReady.cons (o := { dst := some 64, op := Op.buildSlice 22 1 #[(0, Operand.const (Value.agg #[Value.int IntKind.i64 0, Value.int IntKind.i64 0, Value.string { data := #[] }, Value.slice none 0 0]))], type := 22, pos := "ref.go:225", after := #[], guard := none }) rfl (fun K hK => ?_) AllReady.nil))
              · refine step_load rfl 24 (.tmp 3) rfl _ _ (by rfl) L24.out ?_
                refine hK _ _ ?_
                clear hK K
                (try simp only [Act.put, List.setIfInBounds_toArray, List.set_cons_zero, List.set_cons_succ])
                refine wpAny_ready (rs := [6]) (by kernel_rfl) (by simp) ?_
                refine (AllReady.cons (o := { dst := some 64, op := Op.buildSlice 22 1 #[(0, Operand.const (Value.agg #[Value.int IntKind.i64 0, Value.int IntKind.i64 0, Value.string { data := #[] }, Value.slice none 0 0]))], type := 22, pos := "ref.go:225", after := #[], guard := none }) rfl (fun K hK => ?_) AllReady.nil)
                · refine step_build rfl 22 1 (.const (.agg #[.int .i64 0, .int .i64 0, .string ⟨#[]⟩, .slice none 0 0])) rfl _ _ (by rfl) B24.out ?_
                  refine hK _ _ ?_
                  clear hK K
                  (try simp only [Act.put, List.setIfInBounds_toArray, List.set_cons_zero, List.set_cons_succ])
                  exact H
              · refine step_build rfl 22 1 (.const (.agg #[.int .i64 0, .int .i64 0, .string ⟨#[]⟩, .slice none 0 0])) rfl _ _ (by rfl) B24.out ?_
                refine hK _ _ ?_
                clear hK K
                (try simp only [Act.put, List.setIfInBounds_toArray, List.set_cons_zero, List.set_cons_succ])
                refine wpAny_ready (rs := [4]) (by kernel_rfl) (by simp) ?_
                refine (AllReady.cons (o := { dst := some 62, op := Op.load 24 (Operand.tmp 3), type := 24, pos := "ref.go:225", after := #[], guard := none }) rfl (fun K hK => ?_) AllReady.nil)
                · refine step_load rfl 24 (.tmp 3) rfl _ _ (by rfl) L24A.out ?_
                  refine hK _ _ ?_
                  clear hK K
                  (try simp only [Act.put, List.setIfInBounds_toArray, List.set_cons_zero, List.set_cons_succ])
                  exact H
            · refine step_load rfl 24 (.tmp 3) rfl _ _ (by rfl) L24.out ?_
              refine hK _ _ ?_
              clear hK K
              (try simp only [Act.put, List.setIfInBounds_toArray, List.set_cons_zero, List.set_cons_succ])
              refine wpAny_ready (rs := [3, 6]) (by kernel_rfl) (by simp) ?_
              refine (AllReady.cons (o := { dst := some 61, op := Op.load 22 (Operand.tmp 60), type := 22, pos := "ref.go:225", after := #[{ on := 2, ground := Ground.data }], guard := none }) rfl (fun K hK => ?_) (AllReady.cons (o := { dst := some 64, op := Op.buildSlice 22 1 #[(0, Operand.const (Value.agg #[Value.int IntKind.i64 0, Value.int IntKind.i64 0, Value.string { data := #[] }, Value.slice none 0 0]))], type := 22, pos := "ref.go:225", after := #[], guard := none }) rfl (fun K hK => ?_) AllReady.nil))
              · refine step_load rfl 22 (.tmp 60) rfl _ _ (by rfl) L22.out ?_
                refine hK _ _ ?_
                clear hK K
                (try simp only [Act.put, List.setIfInBounds_toArray, List.set_cons_zero, List.set_cons_succ])
                refine wpAny_take (i := 5) (oi := { dst := some 63, op := Op.call { callee := Callee.builtin Builtin.len, args := #[Operand.tmp 61], argTypes := #[22] }, type := 3, pos := "ref.go:225", after := #[{ on := 3, ground := Ground.data }], guard := none }) (v := .int .i64 C.length) rfl (by kernel_rfl) (by kernel_rfl) (by kernel_rfl) (fun c a w h => (h : False).elim) (Or.inl ⟨by rfl, ?_⟩) ?_
                · intro w
                  go_simp
                (try simp only [Act.put, List.setIfInBounds_toArray, List.set_cons_zero, List.set_cons_succ])
                refine wpAny_ready (rs := [6]) (by kernel_rfl) (by simp) ?_
                refine (AllReady.cons (o := { dst := some 64, op := Op.buildSlice 22 1 #[(0, Operand.const (Value.agg #[Value.int IntKind.i64 0, Value.int IntKind.i64 0, Value.string { data := #[] }, Value.slice none 0 0]))], type := 22, pos := "ref.go:225", after := #[], guard := none }) rfl (fun K hK => ?_) AllReady.nil)
                · refine step_build rfl 22 1 (.const (.agg #[.int .i64 0, .int .i64 0, .string ⟨#[]⟩, .slice none 0 0])) rfl _ _ (by rfl) B24.out ?_
                  refine hK _ _ ?_
                  clear hK K
                  (try simp only [Act.put, List.setIfInBounds_toArray, List.set_cons_zero, List.set_cons_succ])
                  exact H
              · refine step_build rfl 22 1 (.const (.agg #[.int .i64 0, .int .i64 0, .string ⟨#[]⟩, .slice none 0 0])) rfl _ _ (by rfl) B24.out ?_
                refine hK _ _ ?_
                clear hK K
                (try simp only [Act.put, List.setIfInBounds_toArray, List.set_cons_zero, List.set_cons_succ])
                refine wpAny_ready (rs := [3]) (by kernel_rfl) (by simp) ?_
                refine (AllReady.cons (o := { dst := some 61, op := Op.load 22 (Operand.tmp 60), type := 22, pos := "ref.go:225", after := #[{ on := 2, ground := Ground.data }], guard := none }) rfl (fun K hK => ?_) AllReady.nil)
                · refine step_load rfl 22 (.tmp 60) rfl _ _ (by rfl) L22A.out ?_
                  refine hK _ _ ?_
                  clear hK K
                  (try simp only [Act.put, List.setIfInBounds_toArray, List.set_cons_zero, List.set_cons_succ])
                  refine wpAny_take (i := 5) (oi := { dst := some 63, op := Op.call { callee := Callee.builtin Builtin.len, args := #[Operand.tmp 61], argTypes := #[22] }, type := 3, pos := "ref.go:225", after := #[{ on := 3, ground := Ground.data }], guard := none }) (v := .int .i64 C.length) rfl (by kernel_rfl) (by kernel_rfl) (by kernel_rfl) (fun c a w h => (h : False).elim) (Or.inl ⟨by rfl, ?_⟩) ?_
                  · intro w
                    go_simp
                  (try simp only [Act.put, List.setIfInBounds_toArray, List.set_cons_zero, List.set_cons_succ])
                  exact H
            · refine step_build rfl 22 1 (.const (.agg #[.int .i64 0, .int .i64 0, .string ⟨#[]⟩, .slice none 0 0])) rfl _ _ (by rfl) B24.out ?_
              refine hK _ _ ?_
              clear hK K
              (try simp only [Act.put, List.setIfInBounds_toArray, List.set_cons_zero, List.set_cons_succ])
              refine wpAny_ready (rs := [3, 4]) (by kernel_rfl) (by simp) ?_
              refine (AllReady.cons (o := { dst := some 61, op := Op.load 22 (Operand.tmp 60), type := 22, pos := "ref.go:225", after := #[{ on := 2, ground := Ground.data }], guard := none }) rfl (fun K hK => ?_) (AllReady.cons (o := { dst := some 62, op := Op.load 24 (Operand.tmp 3), type := 24, pos := "ref.go:225", after := #[], guard := none }) rfl (fun K hK => ?_) AllReady.nil))
              · refine step_load rfl 22 (.tmp 60) rfl _ _ (by rfl) L22A.out ?_
                refine hK _ _ ?_
                clear hK K
                (try simp only [Act.put, List.setIfInBounds_toArray, List.set_cons_zero, List.set_cons_succ])
                refine wpAny_take (i := 5) (oi := { dst := some 63, op := Op.call { callee := Callee.builtin Builtin.len, args := #[Operand.tmp 61], argTypes := #[22] }, type := 3, pos := "ref.go:225", after := #[{ on := 3, ground := Ground.data }], guard := none }) (v := .int .i64 C.length) rfl (by kernel_rfl) (by kernel_rfl) (by kernel_rfl) (fun c a w h => (h : False).elim) (Or.inl ⟨by rfl, ?_⟩) ?_
                · intro w
                  go_simp
                (try simp only [Act.put, List.setIfInBounds_toArray, List.set_cons_zero, List.set_cons_succ])
                refine wpAny_ready (rs := [4]) (by kernel_rfl) (by simp) ?_
                refine (AllReady.cons (o := { dst := some 62, op := Op.load 24 (Operand.tmp 3), type := 24, pos := "ref.go:225", after := #[], guard := none }) rfl (fun K hK => ?_) AllReady.nil)
                · refine step_load rfl 24 (.tmp 3) rfl _ _ (by rfl) L24A.out ?_
                  refine hK _ _ ?_
                  clear hK K
                  (try simp only [Act.put, List.setIfInBounds_toArray, List.set_cons_zero, List.set_cons_succ])
                  exact H
              · refine step_load rfl 24 (.tmp 3) rfl _ _ (by rfl) L24A.out ?_
                refine hK _ _ ?_
                clear hK K
                (try simp only [Act.put, List.setIfInBounds_toArray, List.set_cons_zero, List.set_cons_succ])
                refine wpAny_ready (rs := [3]) (by kernel_rfl) (by simp) ?_
                refine (AllReady.cons (o := { dst := some 61, op := Op.load 22 (Operand.tmp 60), type := 22, pos := "ref.go:225", after := #[{ on := 2, ground := Ground.data }], guard := none }) rfl (fun K hK => ?_) AllReady.nil)
                · refine step_load rfl 22 (.tmp 60) rfl _ _ (by rfl) L22A.out ?_
                  refine hK _ _ ?_
                  clear hK K
                  (try simp only [Act.put, List.setIfInBounds_toArray, List.set_cons_zero, List.set_cons_succ])
                  refine wpAny_take (i := 5) (oi := { dst := some 63, op := Op.call { callee := Callee.builtin Builtin.len, args := #[Operand.tmp 61], argTypes := #[22] }, type := 3, pos := "ref.go:225", after := #[{ on := 3, ground := Ground.data }], guard := none }) (v := .int .i64 C.length) rfl (by kernel_rfl) (by kernel_rfl) (by kernel_rfl) (fun c a w h => (h : False).elim) (Or.inl ⟨by rfl, ?_⟩) ?_
                  · intro w
                    go_simp
                  (try simp only [Act.put, List.setIfInBounds_toArray, List.set_cons_zero, List.set_cons_succ])
                  exact H
          case g =>
            refine wpAny_ready (rs := [7]) (by kernel_rfl) (by simp) ?_
            refine (AllReady.cons (o := { dst := some 65, op := Op.call { callee := Callee.builtin Builtin.append, args := #[Operand.tmp 61, Operand.tmp 64], argTypes := #[22, 22] }, type := 22, pos := "ref.go:225", after := #[{ on := 3, ground := Ground.data }, { on := 6, ground := Ground.data }, { on := 0, ground := Ground.phase }, { on := 1, ground := Ground.phase }, { on := 2, ground := Ground.phase }, { on := 3, ground := Ground.phase }, { on := 4, ground := Ground.phase }, { on := 5, ground := Ground.phase }, { on := 6, ground := Ground.phase }], guard := none }) rfl (fun K hK => ?_) AllReady.nil)
            refine step_append_lies _ (by rfl) (.tmp 61) (.tmp 64) 22 (by rfl) (b + 1) 24 i7 _ 4 56 Tryz.underlying22 hi7 hz7 hs7 hy7 rfl (by omega) (.slice ac C.length capc) C.length _ (by rfl) HROW.out ⟨D.heap.size, 0, none⟩ 1 1 [.int .i64 0, .int .i64 0, .string ⟨#[]⟩, .slice none 0 0] (by rfl) rfl HNEWS.out (by simp [Value.oneCell']) (by omega) (by unfold maxLen; omega) (by omega) hbase _ rfl ?_
            intro g4 cap4 w8 hown8 hg8 hat8 hlt8
            refine hK _ _ ?_
            clear hK K
            (try simp only [Act.put, List.setIfInBounds_toArray, List.set_cons_zero, List.set_cons_succ])
            obtain ⟨hb8, hth8⟩ := HC4.out w8 g4 cap4 hg8 hown8
            have c8 : w8.cell? ⟨b, 1, none⟩ = some (.slice ac C.length capc) := by rw [cell_of hb8]; rfl
            have f8 := free_of (j := 1) hb8
            have Hb8 := Lib.hid hb8
            have HG8 := Lib.hid hg8
            have HOWN8 := Lib.hid hown8
            have HAT8 := Lib.hid hat8
            clear hb8 hg8 hown8 hat8
            refine wpAny_take (i := 8) (oi := { dst := some 66, op := Op.indexAddr 22 (Operand.tmp 65) (Operand.tmp 63), type := 0, pos := "ref.go:225", after := #[{ on := 7, ground := Ground.data }, { on := 5, ground := Ground.data }, { on := 0, ground := Ground.phase }, { on := 1, ground := Ground.phase }, { on := 2, ground := Ground.phase }, { on := 3, ground := Ground.phase }, { on := 4, ground := Ground.phase }, { on := 5, ground := Ground.phase }, { on := 6, ground := Ground.phase }, { on := 7, ground := Ground.phase }, { on := 12, ground := Ground.gcOnly Departure.appendInPlace }], guard := none }) (v := .pointer (some ⟨g4, C.length * 4, none⟩)) rfl (by kernel_rfl) (by kernel_rfl) (by kernel_rfl) (fun c a w h => (h : False).elim) (Or.inl ⟨by rfl, ?_⟩) ?_
            · intro w
              go_simp
              intro hx
              omega
            (try simp only [Act.put, List.setIfInBounds_toArray, List.set_cons_zero, List.set_cons_succ])
            refine wpAny_take (i := 10) (oi := { dst := some 67, op := Op.nilCheck (Operand.tmp 58), type := 0, pos := "ref.go:225", after := #[{ on := 0, ground := Ground.data }, { on := 0, ground := Ground.phase }, { on := 1, ground := Ground.phase }, { on := 2, ground := Ground.phase }, { on := 3, ground := Ground.phase }, { on := 4, ground := Ground.phase }, { on := 5, ground := Ground.phase }, { on := 6, ground := Ground.phase }, { on := 7, ground := Ground.phase }, { on := 8, ground := Ground.textOnly Departure.appendInPlace }, { on := 9, ground := Ground.textOnly Departure.appendInPlace }], guard := none }) (v := .pointer (some ⟨b, 0, none⟩)) rfl (by kernel_rfl) (by kernel_rfl) (by kernel_rfl) (fun c a w h => (h : False).elim) (Or.inl ⟨by rfl, ?_⟩) ?_
            · intro w
              go_simp
            (try simp only [Act.put, List.setIfInBounds_toArray, List.set_cons_zero, List.set_cons_succ])
            refine wpAny_take (i := 11) (oi := { dst := some 68, op := Op.fieldAddr 37 (Operand.tmp 67) 1, type := 0, pos := "ref.go:225", after := #[{ on := 10, ground := Ground.data }, { on := 0, ground := Ground.phase }, { on := 1, ground := Ground.phase }, { on := 2, ground := Ground.phase }, { on := 3, ground := Ground.phase }, { on := 4, ground := Ground.phase }, { on := 5, ground := Ground.phase }, { on := 6, ground := Ground.phase }, { on := 7, ground := Ground.phase }, { on := 8, ground := Ground.textOnly Departure.appendInPlace }, { on := 9, ground := Ground.textOnly Departure.appendInPlace }], guard := none }) (v := .pointer (some ⟨b, 1, none⟩)) rfl (by kernel_rfl) (by kernel_rfl) (by kernel_rfl) (fun c a w h => (h : False).elim) (Or.inl ⟨by rfl, ?_⟩) ?_
            · intro w
              go_simp
            (try simp only [Act.put, List.setIfInBounds_toArray, List.set_cons_zero, List.set_cons_succ])
            refine wpAny_ready (rs := [9, 12]) (by kernel_rfl) (by simp) ?_
            refine (AllReady.cons (o := { dst := none, op := Op.store 24 (Operand.tmp 66) (Operand.tmp 62), type := 0, pos := "ref.go:225", after := #[{ on := 8, ground := Ground.data }, { on := 4, ground := Ground.data }, { on := 7, ground := Ground.chain }, { on := 0, ground := Ground.phase }, { on := 1, ground := Ground.phase }, { on := 2, ground := Ground.phase }, { on := 3, ground := Ground.phase }, { on := 4, ground := Ground.phase }, { on := 5, ground := Ground.phase }, { on := 6, ground := Ground.phase }, { on := 7, ground := Ground.phase }, { on := 12, ground := Ground.gcOnly Departure.appendInPlace }], guard := none }) rfl (fun K hK => ?_) (AllReady.cons (o := { dst := none, op := Op.store 22 (Operand.tmp 68) (Operand.tmp 65), type := 0, pos := "ref.go:225", after := #[{ on := 11, ground := Ground.data }, { on := 7, ground := Ground.data }, { on := 7, ground := Ground.chain }, { on := 9, ground := Ground.textOnly Departure.appendInPlace }, { on := 0, ground := Ground.phase }, { on := 1, ground := Ground.phase }, { on := 2, ground := Ground.phase }, { on := 3, ground := Ground.phase }, { on := 4, ground := Ground.phase }, { on := 5, ground := Ground.phase }, { on := 6, ground := Ground.phase }, { on := 7, ground := Ground.phase }, { on := 8, ground := Ground.textOnly Departure.appendInPlace }, { on := 9, ground := Ground.textOnly Departure.appendInPlace }], guard := none }) rfl (fun K hK => ?_) AllReady.nil))
            · refine step_store_mid rfl 24 (.tmp 66) (.tmp 62) rfl g4 (C.length * 4) #[.int .i64 v.k, .int .i64 v.n, .string v.s, .slice a v.ps.length cap] (by rfl) (by rfl) hth8 size24 (by simp [Value.oneCell']) ?_
              refine hK _ _ ?_
              clear hK K
              (try simp only [Act.put])
              have hb9 := set4_other (w := w8) (g := g4) (o := C.length * 4) (b := b) (HGB.out w8 g4 cap4 HOWN8.out) (.int .i64 v.k) (.int .i64 v.n) (.string v.s) (.slice a v.ps.length cap) Hb8.out
              have c9 : (w8.setCells g4 (C.length * 4) [.int .i64 v.k, .int .i64 v.n, .string v.s, .slice a v.ps.length cap]).cell? ⟨b, 1, none⟩ = some (.slice ac C.length capc) := by rw [cell_of hb9]; rfl
              have f9 := free_of (j := 1) hb9
              refine wpAny_ready (rs := [12]) (by kernel_rfl) (by simp) ?_
              refine (AllReady.cons (o := { dst := none, op := Op.store 22 (Operand.tmp 68) (Operand.tmp 65), type := 0, pos := "ref.go:225", after := #[{ on := 11, ground := Ground.data }, { on := 7, ground := Ground.data }, { on := 7, ground := Ground.chain }, { on := 9, ground := Ground.textOnly Departure.appendInPlace }, { on := 0, ground := Ground.phase }, { on := 1, ground := Ground.phase }, { on := 2, ground := Ground.phase }, { on := 3, ground := Ground.phase }, { on := 4, ground := Ground.phase }, { on := 5, ground := Ground.phase }, { on := 6, ground := Ground.phase }, { on := 7, ground := Ground.phase }, { on := 8, ground := Ground.textOnly Departure.appendInPlace }, { on := 9, ground := Ground.textOnly Departure.appendInPlace }], guard := none }) rfl (fun K hK => ?_) AllReady.nil)
              go_simp
              refine hK _ _ ?_
              clear hK K
              (try simp only [Act.put, List.setIfInBounds_toArray, List.set_cons_zero, List.set_cons_succ])
              refine wpAny_done (by kernel_rfl) ?_ _
              refine NoPanic.normal ?_
              have hend := HEND.out w8 g4 cap4 HG8.out HOWN8.out HAT8.out (w9 := ((w8.setCells g4 (C.length * 4) [.int .i64 v.k, .int .i64 v.n, .string v.s, .slice a v.ps.length cap]).setCell ⟨b, 1, none⟩ (.slice (some ⟨g4, 0, none⟩) (C.length + 1) cap4))) (ends_A (HGB.out w8 g4 cap4 HOWN8.out) _ _ _ _ _)
              obtain ⟨hend1, hend2, hend3⟩ := hend
              have c9 := hend1.c1
              have HE1 := Lib.hid hend1
              have HE2 := Lib.hid hend2
              have HE3 := Lib.hid hend3
              clear hend1 hend2 hend3
              generalize ((w8.setCells g4 (C.length * 4) [.int .i64 v.k, .int .i64 v.n, .string v.s, .slice a v.ps.length cap]).setCell ⟨b, 1, none⟩ (.slice (some ⟨g4, 0, none⟩) (C.length + 1) cap4)) = w9 at *
              go_wp2_with fail
              go_ret2
              exact ⟨by rw [HPV.out]; exact ret_two (by simp) rfl, HFIN.out w9 g4 cap4 HE1.out HE2.out HE3.out⟩
            · go_simp
              refine hK _ _ ?_
              clear hK K
              (try simp only [Act.put, List.setIfInBounds_toArray, List.set_cons_zero, List.set_cons_succ])
              refine wpAny_ready (rs := [9]) (by kernel_rfl) (by simp) ?_
              refine (AllReady.cons (o := { dst := none, op := Op.store 24 (Operand.tmp 66) (Operand.tmp 62), type := 0, pos := "ref.go:225", after := #[{ on := 8, ground := Ground.data }, { on := 4, ground := Ground.data }, { on := 7, ground := Ground.chain }, { on := 0, ground := Ground.phase }, { on := 1, ground := Ground.phase }, { on := 2, ground := Ground.phase }, { on := 3, ground := Ground.phase }, { on := 4, ground := Ground.phase }, { on := 5, ground := Ground.phase }, { on := 6, ground := Ground.phase }, { on := 7, ground := Ground.phase }, { on := 12, ground := Ground.gcOnly Departure.appendInPlace }], guard := none }) rfl (fun K hK => ?_) AllReady.nil)
              refine step_store_mid rfl 24 (.tmp 66) (.tmp 62) rfl g4 (C.length * 4) #[.int .i64 v.k, .int .i64 v.n, .string v.s, .slice a v.ps.length cap] (by rfl) (by rfl) (there_set hth8 _ _) size24 (by simp [Value.oneCell']) ?_
              refine hK _ _ ?_
              clear hK K
              (try simp only [Act.put])
              refine wpAny_done (by kernel_rfl) ?_ _
              refine NoPanic.normal ?_
              have hend := HEND.out w8 g4 cap4 HG8.out HOWN8.out HAT8.out (w9 := ((w8.setCell ⟨b, 1, none⟩ (.slice (some ⟨g4, 0, none⟩) (C.length + 1) cap4)).setCells g4 (C.length * 4) [.int .i64 v.k, .int .i64 v.n, .string v.s, .slice a v.ps.length cap])) (ends_B (HGB.out w8 g4 cap4 HOWN8.out) _ _ _ _ _)
              obtain ⟨hend1, hend2, hend3⟩ := hend
              have c9 := hend1.c1
              have HE1 := Lib.hid hend1
              have HE2 := Lib.hid hend2
              have HE3 := Lib.hid hend3
              clear hend1 hend2 hend3
              generalize ((w8.setCell ⟨b, 1, none⟩ (.slice (some ⟨g4, 0, none⟩) (C.length + 1) cap4)).setCells g4 (C.length * 4) [.int .i64 v.k, .int .i64 v.n, .string v.s, .slice a v.ps.length cap]) = w9 at *
              go_wp2_with fail
              go_ret2
              exact ⟨by rw [HPV.out]; exact ret_two (by simp) rfl, HFIN.out w9 g4 cap4 HE1.out HE2.out HE3.out⟩

theorem RSto.sep {B : Nat} {w : World} {b : Nat} {L : List ByteArray} {C : List (V × Value)} {rb cb : Option Nat} {tv cv : Value} (h : RSto B w b L C rb cb tv cv) : ∀ k, rb = some k → cb ≠ some k := fun k hk e => by
  rcases h.row.2 with ⟨h1, _⟩ | ⟨g1, c1, u1, h1, _, h3, _⟩
  · rw [← h.blk, h1] at hk; simp [Value.ownBlock] at hk
  · rcases h.crow.2 with ⟨h1', _⟩ | ⟨g2, c2, u2, h1', _, h3', _⟩
    · rw [← h.cblk, h1'] at e; simp [Value.ownBlock] at e
    · have e1 : g1 = k := by rw [← h.blk, h1] at hk; simpa [Value.ownBlock] using hk
      have e2 : g2 = k := by rw [← h.cblk, h1'] at e; simpa [Value.ownBlock] using e
      subst e1; subst e2
      rw [h3] at h3'
      simp at h3'
theorem RSto.text_put {B : Nat} {w w' : World} {b : Nat} {L L' : List ByteArray} {C : List (V × Value)} {rb cb rb' : Option Nat} {tv cv tv' : Value} (h : RSto B w b L C rb cb tv cv) (ht : Sy.RTab w' b L' rb' tv') (hf : Sy.Fr (Sy.RFoot b rb) w w')
    (hc : ∀ (x : Value) (t : TypeId), w.heap[b]? = some (.cells #[tv, x] t (0, 0)) → w'.heap[b]? = some (.cells #[tv', x] t (0, 0))) : RSto B w' b L' C rb' cb tv' cv := by
  have hr := h.rows
  refine ⟨hc _ _ h.cells, ht.row, ht.blk, ht.len, own_kept h.crow (fun k hk => ?_), h.cblk, h.clen, fun p hp => (h.parts p hp).move (fun k hk => ⟨hk, fun j => World.cell?_of_block (a := ⟨k, j, none⟩) (hf.block k (by omega) ?_)⟩), h.low, h.ok⟩
  · have hk' := h.cblk ▸ hk
    have h2 := hr.2.1 k hk'
    exact hf.block k h2.2 (by rintro (e | e); omega; exact h.sep k e hk')
  · rintro (e | e)
    · omega
    · have := hr.1 k e; omega
theorem rfoot_far {B : Nat} {w : World} {b : Nat} {rs : RS} {rb cb : Option Nat} (h : RStor B w b rs rb cb) : ¬ Sy.RFoot b rb w.heap.size := fun e => h.apart (Nat.le_refl _) (by rcases e with e | e; exact .inl e; exact .inr (.inl e))
theorem rputV_num (v : V) (rs : RS) (h : v.k = 1) : rputV v rs = (v.n, 0, rs) := by cases v; simp only [V.k] at h; unfold rputV; rw [if_pos h]; rfl
theorem rputV_sym (v : V) (rs : RS) (h : v.k = 2) : rputV v rs = ((Sy.pN rs.1 v.s : Int), (Sy.pE rs.1 v.s : Int), (Sy.pL rs.1 v.s, rs.2)) := by cases v; simp only [V.k] at h; unfold rputV; rw [if_neg (by omega), if_pos h]; rfl

set_option maxRecDepth 100000 in
set_option maxHeartbeats 4000000 in
theorem rput_flat (B b : Nat) (v : V) (x : Value) (rs : RS) (rb cb : Option Nat) (w : World) (hst : RStor B w b rs rb cb) (hx : IsVP (fun k => k < B) w v x) (hok : v.Ok) (h12 : v.k = 1 ∨ v.k = 2) :
    Calls Tryz.prog 42 #[.pointer (some ⟨b, 0, none⟩), x] w (RPost B b v rs rb cb w) := by
  obtain ⟨a, cap, rfl, hcap, hel⟩ := hx.open
  have hlen := ok_len hok
  have HST := Lib.hid hst
  obtain ⟨W0, hW0⟩ : ∃ W0, W0 = w.alloc (.cells #[.int .i64 v.k, .int .i64 v.n, .string v.s, .slice a v.ps.length cap] 24) := ⟨_, rfl⟩
  have hb0 : W0.heap[w.heap.size]? = some (.cells #[.int .i64 v.k, .int .i64 v.n, .string v.s, .slice a v.ps.length cap] 24 (0, 0)) := by rw [hW0]; exact heap_alloc_new _ _
  have hB0 : Below w.heap.size w W0 := by rw [hW0]; exact (Below.refl _ _).alloc (Nat.le_refl _) _
  have hz0 : W0.heap.size = w.heap.size + 1 := by rw [hW0]; simp
  have HW0 := Lib.hid hW0
  have Hb0 := Lib.hid hb0
  have HB0 := Lib.hid hB0
  have HS0 := Lib.hid (hst.new hB0)
  have HF0 := Lib.hid (Sy.Fr.of_below (S := RF b rb cb) hB0)
  have HZ0 := Lib.hid hz0
  by_cases h1 : v.k = 1
  · have hk1 : (v.k == 1) = true := by simp [h1]
    have hp := Lib.hid (rputV_num v rs h1)
    clear h12 h1 hst hel hx hok hW0 hB0 hb0 hz0
    go_enter Tryz.func42, Tryz.ntmps42
    go_wp2_with fail
    rw [← HW0.out]
    go_ret2
    exact ⟨by rw [hp.out]; rfl, rb, cb, by rw [hp.out]; exact HS0.out, .inl rfl, .inl rfl, HF0.out⟩
  · have h2 : v.k = 2 := by rcases h12 with h | h; exact absurd h h1; exact h
    have hk1 : (v.k == 1) = false := by simp [h1]
    have hk2 : (v.k == 2) = true := by simp [h2]
    have hp := Lib.hid (rputV_sym v rs h2)
    obtain ⟨C, tv, cv, hC, hsto⟩ := hst.new (hB0.trans ((Below.refl _ _).drew : Below w.heap.size W0 W0.drew))
    have HCC := Lib.hid hC
    have HSTO := Lib.hid hsto
    have HK := Lib.hid (show ∀ w', Below W0.heap.size W0 w' → w'.cell? ⟨w.heap.size, 2, none⟩ = some (.string v.s) from fun w' h => by rw [cell_of ((h.block _ (heap_lt hb0)).trans hb0)]; rfl)
    clear h12 h1 h2 hst hel hx hok hW0 hB0 hb0 hz0 hC hsto
    go_enter Tryz.func42, Tryz.ntmps42
    go_wp2_with fail
    rw [← HW0.out]
    go_region_held3 (fun w' => w'.cell? ⟨w.heap.size, 2, none⟩ = some (.string v.s)) (first | exact HK.out _ (Below.refl _ _).drew | assumption) (first | (go_at_call 62; refine (Sy.rput_any b rs.1 rb tv v.s _ HSTO.out.rtab).mono ?_; rintro e w7 ⟨rfl, rb7, tv7, ht7, hl7, hf7, hc7⟩; have hq7 : w7.cell? ⟨w.heap.size, 2, none⟩ = some (.string v.s) := ((World.cell?_of_block (a := ⟨w.heap.size, 2, none⟩) (hf7.block _ (show w.heap.size < W0.drew.heap.size from heap_lt Hb0.out) (rfoot_far HST.out))).trans (HK.out _ (Below.refl _ _).drew))))
    have HR7 := Lib.hid (HSTO.out.text_put ht7 hf7 hc7)
    have HL7 := Lib.hid hl7
    have HF7 := Lib.hid hf7
    clear ht7 hl7 hf7 hc7
    go_wp2_with fail
    go_ret2
    refine ⟨by rw [hp.out]; rfl, rb7, cb, by rw [hp.out]; exact ⟨C, tv7, cv, HCC.out, HR7.out⟩, ?_, .inl rfl, HF0.out.trans ((Sy.Fr.of_below (Below.refl _ _).drew).trans (HF7.out.mono (fun k _ h => by rcases h with h | h; exact .inl h; exact .inr (.inl h))))⟩
    rcases HL7.out with h | ⟨g, h, hg⟩
    · exact .inl h
    · exact .inr ⟨g, h, Nat.le_trans (by have := HZ0.out; omega) (show W0.heap.size ≤ g from hg)⟩
theorem may_kind {v : V} {d : Int} (h : mayV v d = true) (h3 : v.k ≠ 3) : v.k = 1 ∨ v.k = 2 := by
  cases v with
  | mk k n s ps =>
    by_cases h1 : k = 1
    · exact .inl h1
    · by_cases h2 : k = 2
      · exact .inr h2
      · exact absurd (may_con3 h h1 h2).1 h3
theorem rput_any (N : Nat) : ∀ (B b : Nat) (v : V) (x : Value) (d : Int) (rs : RS) (rb cb : Option Nat) (w : World), v.sz < N → RStor B w b rs rb cb → IsVP (fun k => k < B) w v x → v.Ok → mayV v d = true →
    Calls Tryz.prog 42 #[.pointer (some ⟨b, 0, none⟩), x] w (RPost B b v rs rb cb w) := by
  induction N with
  | zero => intro B b v x d rs rb cb w h; omega
  | succ N ih =>
    intro B b v x d rs rb cb w hN hst hx hok hmay
    by_cases h3 : v.k = 3
    · have hms : mayVs v.ps (d + 1) = true := by
        have := mayV_con v d h3
        rw [hmay] at this
        simp only [eq_comm (a := true), Bool.and_eq_true] at this
        exact this.2
      exact rput_con B b v x d rs rb cb w hst hx hok hmay h3 (fun y hy z rs rb cb w hs hz => ih B b y z (d + 1) rs rb cb w (by have := size_part hy; omega) hs hz (ok_part hok hy) (mayVs_mem hms y hy))
    · exact rput_flat B b v x rs rb cb w hst hx hok (may_kind hmay h3)
end Go.Proofs.YtnddcicadmbmkaaGreatDoor
