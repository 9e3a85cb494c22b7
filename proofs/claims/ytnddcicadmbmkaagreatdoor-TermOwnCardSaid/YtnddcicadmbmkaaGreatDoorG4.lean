/- Unlike values that may be have unlike texts: plain. -/
import Derived.Test.YtnddcicadmbmkaaGreatDoorC3
namespace Go.Proofs.YtnddcicadmbmkaaGreatDoor
open Go.RowKit

/-- no list that begins with a byte of p -/
def Stops (p : UInt8 → Bool) (r : List UInt8) : Prop := ∀ c t, r = c :: t → p c = false
theorem span_split {p : UInt8 → Bool} : ∀ {l m r s : List UInt8}, (∀ c ∈ l, p c = true) → (∀ c ∈ m, p c = true) → Stops p r → Stops p s → l ++ r = m ++ s → l = m ∧ r = s
  | [], [], _, _, _, _, _, _, h => ⟨rfl, h⟩
  | [], c :: m, r, s, _, hm, hr, _, h => by
    have h1 := hr c (m ++ s) h
    rw [hm c (by simp)] at h1
    cases h1
  | c :: l, [], r, s, hl, _, _, hs, h => by
    have h1 := hs c (l ++ r) h.symm
    rw [hl c (by simp)] at h1
    cases h1
  | c :: l, d :: m, r, s, hl, hm, hr, hs, h => by
    simp only [List.cons_append, List.cons.injEq] at h
    obtain ⟨h1, h2⟩ := span_split (fun x hx => hl x (by simp [hx])) (fun x hx => hm x (by simp [hx])) hr hs h.2
    exact ⟨by rw [h.1, h1], h2⟩

/-! ### numbers -/
def dgt (c : UInt8) : Bool := digitN c.toNat
def decVal (l : List UInt8) : Nat := l.foldl (fun a c => a * 10 + (c.toNat - 48)) 0
theorem dig_nat {d : Nat} (h : d < 10) : (UInt8.ofNat (48 + d)).toNat = 48 + d := by
  simp; omega
theorem dec_all (u : Nat) : ∀ c ∈ Lib.decDigits u, dgt c = true := by
  induction u using Nat.strongRecOn with
  | _ u ih =>
    intro c hc
    rw [Lib.decDigits] at hc
    by_cases h : u < 10
    · rw [dif_pos h] at hc
      simp only [List.mem_singleton] at hc
      subst hc
      unfold dgt digitN
      rw [dig_nat h]
      simp; omega
    · rw [dif_neg h] at hc
      rcases List.mem_append.1 hc with hc | hc
      · exact ih (u / 10) (by omega) c hc
      · simp only [List.mem_singleton] at hc
        subst hc
        unfold dgt digitN
        rw [dig_nat (by omega)]
        simp; omega
theorem dec_val (u : Nat) : decVal (Lib.decDigits u) = u := by
  induction u using Nat.strongRecOn with
  | _ u ih =>
    rw [Lib.decDigits]
    by_cases h : u < 10
    · rw [dif_pos h]
      simp only [decVal, List.foldl_cons, List.foldl_nil]
      rw [dig_nat h]; omega
    · rw [dif_neg h]
      have h1 := ih (u / 10) (by omega)
      unfold decVal at h1 ⊢
      rw [List.foldl_append, h1]
      simp only [List.foldl_cons, List.foldl_nil]
      rw [dig_nat (by omega)]; omega
theorem dec_ne (u : Nat) : ∃ c t, Lib.decDigits u = c :: t ∧ dgt c = true := by
  have h := dec_all u
  cases hd : Lib.decDigits u with
  | nil =>
    have := Lib.decDigits_length u
    rw [hd] at this
    have := Lib.nDigits_pos u
    simp at *; omega
  | cons c t => exact ⟨c, t, rfl, h c (by rw [hd]; simp)⟩
theorem dec_split {u v : Nat} {r s : List UInt8} (hr : Stops dgt r) (hs : Stops dgt s) (h : Lib.decDigits u ++ r = Lib.decDigits v ++ s) : u = v ∧ r = s := by
  obtain ⟨h1, h2⟩ := span_split (dec_all u) (dec_all v) hr hs h
  exact ⟨by rw [← dec_val u, h1, dec_val], h2⟩
theorem itoa_split {n m : Int} {r s : List UInt8} (hr : Stops dgt r) (hs : Stops dgt s) (h : Lib.itoa n ++ r = Lib.itoa m ++ s) : n = m ∧ r = s := by
  unfold Lib.itoa at h
  by_cases hn : n < 0
  · rw [if_pos hn] at h
    by_cases hm : m < 0
    · rw [if_pos hm] at h
      simp only [List.cons_append, List.cons.injEq, true_and] at h
      obtain ⟨h1, h2⟩ := dec_split hr hs h
      exact ⟨by omega, h2⟩
    · rw [if_neg hm] at h
      obtain ⟨c, t, h1, h2⟩ := dec_ne m.toNat
      rw [h1] at h
      simp only [List.cons_append, List.cons.injEq] at h
      rw [← h.1] at h2
      exact absurd h2 (by decide)
  · rw [if_neg hn] at h
    by_cases hm : m < 0
    · rw [if_pos hm] at h
      obtain ⟨c, t, h1, h2⟩ := dec_ne n.toNat
      rw [h1] at h
      simp only [List.cons_append, List.cons.injEq] at h
      rw [h.1] at h2
      exact absurd h2 (by decide)
    · rw [if_neg hm] at h
      obtain ⟨h1, h2⟩ := dec_split hr hs h
      exact ⟨by omega, h2⟩
theorem itoa_head (n : Int) : ∃ c t, Lib.itoa n = c :: t ∧ (c = 45 ∨ dgt c = true) := by
  unfold Lib.itoa
  by_cases hn : n < 0
  · rw [if_pos hn]; exact ⟨_, _, rfl, .inl rfl⟩
  · rw [if_neg hn]
    obtain ⟨c, t, h1, h2⟩ := dec_ne n.toNat
    exact ⟨c, t, h1, .inr h2⟩

/-! ### texts -/
theorem esc_form (c : UInt8) : (∃ e, escB c = [92, e] ∧ ∀ d, escB d = [92, e] → d = c) ∨ (escB c = [c] ∧ c ≠ 92 ∧ c ≠ 34) := by
  have key : ∀ d : UInt8, (escB d = [92, 34] ∧ d = 34) ∨ (escB d = [92, 92] ∧ d = 92) ∨ (escB d = [92, 110] ∧ d = 10) ∨ (escB d = [92, 116] ∧ d = 9) ∨ (escB d = [d] ∧ d ≠ 92 ∧ d ≠ 34) := by
    intro d
    unfold escB escE
    by_cases h1 : d.toNat = 34
    · rw [if_pos h1]; exact .inl ⟨rfl, UInt8.toNat_inj.1 h1⟩
    · rw [if_neg h1]
      by_cases h2 : d.toNat = 92
      · rw [if_pos h2]; exact .inr (.inl ⟨rfl, UInt8.toNat_inj.1 h2⟩)
      · rw [if_neg h2]
        by_cases h3 : d.toNat = 10
        · rw [if_pos h3]; exact .inr (.inr (.inl ⟨rfl, UInt8.toNat_inj.1 h3⟩))
        · rw [if_neg h3]
          by_cases h4 : d.toNat = 9
          · rw [if_pos h4]; exact .inr (.inr (.inr (.inl ⟨rfl, UInt8.toNat_inj.1 h4⟩)))
          · rw [if_neg h4]
            exact .inr (.inr (.inr (.inr ⟨rfl, fun e => h2 (by rw [e]; rfl), fun e => h1 (by rw [e]; rfl)⟩)))
  rcases key c with ⟨h1, h2⟩ | ⟨h1, h2⟩ | ⟨h1, h2⟩ | ⟨h1, h2⟩ | h
  · refine .inl ⟨34, h1, fun d hd => ?_⟩
    rcases key d with ⟨h3, h4⟩ | ⟨h3, h4⟩ | ⟨h3, h4⟩ | ⟨h3, h4⟩ | ⟨h3, h4⟩ <;> rw [hd] at h3 <;> simp at h3 <;> rw [h4, h2]
  · refine .inl ⟨92, h1, fun d hd => ?_⟩
    rcases key d with ⟨h3, h4⟩ | ⟨h3, h4⟩ | ⟨h3, h4⟩ | ⟨h3, h4⟩ | ⟨h3, h4⟩ <;> rw [hd] at h3 <;> simp at h3 <;> rw [h4, h2]
  · refine .inl ⟨110, h1, fun d hd => ?_⟩
    rcases key d with ⟨h3, h4⟩ | ⟨h3, h4⟩ | ⟨h3, h4⟩ | ⟨h3, h4⟩ | ⟨h3, h4⟩ <;> rw [hd] at h3 <;> simp at h3 <;> rw [h4, h2]
  · refine .inl ⟨116, h1, fun d hd => ?_⟩
    rcases key d with ⟨h3, h4⟩ | ⟨h3, h4⟩ | ⟨h3, h4⟩ | ⟨h3, h4⟩ | ⟨h3, h4⟩ <;> rw [hd] at h3 <;> simp at h3 <;> rw [h4, h2]
  · exact .inr h
theorem escL_cons (c : UInt8) (l : List UInt8) : escL (c :: l) = escB c ++ escL l := by unfold escL; simp
theorem esc_head (c : UInt8) : ∃ d t, escB c = d :: t ∧ d ≠ 34 := by
  rcases esc_form c with ⟨e, h, _⟩ | ⟨h, _, h2⟩
  · exact ⟨92, [e], h, by decide⟩
  · exact ⟨c, [], h, h2⟩
theorem esc_split : ∀ {l m r s : List UInt8}, escL l ++ 34 :: r = escL m ++ 34 :: s → l = m ∧ r = s
  | [], [], r, s, h => by simpa [escL] using h
  | [], c :: m, r, s, h => by
    rw [escL_cons] at h
    obtain ⟨d, t, h1, h2⟩ := esc_head c
    rw [h1] at h
    simp only [escL, List.flatMap_nil, List.nil_append, List.cons_append, List.cons.injEq] at h
    exact absurd h.1.symm h2
  | c :: l, [], r, s, h => by
    rw [escL_cons] at h
    obtain ⟨d, t, h1, h2⟩ := esc_head c
    rw [h1] at h
    simp only [escL, List.flatMap_nil, List.nil_append, List.cons_append, List.cons.injEq] at h
    exact absurd h.1 h2
  | c :: l, d :: m, r, s, h => by
    rw [escL_cons, escL_cons] at h
    rcases esc_form c with ⟨e, h1, h2⟩ | ⟨h1, h2, h3⟩
    · rcases esc_form d with ⟨e', h1', h2'⟩ | ⟨h1', h2', h3'⟩
      · rw [h1, h1'] at h
        simp only [List.cons_append, List.nil_append, List.cons.injEq, true_and] at h
        obtain ⟨h4, h5⟩ := esc_split h.2
        have : d = c := h2 d (by rw [h1', h.1])
        exact ⟨by rw [this, h4], h5⟩
      · rw [h1, h1'] at h
        simp only [List.cons_append, List.nil_append, List.cons.injEq] at h
        exact absurd h.1.symm h2'
    · rcases esc_form d with ⟨e', h1', h2'⟩ | ⟨h1', h2', h3'⟩
      · rw [h1, h1'] at h
        simp only [List.cons_append, List.nil_append, List.cons.injEq] at h
        exact absurd h.1 h2
      · rw [h1, h1'] at h
        simp only [List.cons_append, List.nil_append, List.cons.injEq] at h
        obtain ⟨h4, h5⟩ := esc_split h.2
        exact ⟨by rw [h.1, h4], h5⟩

/-! ### names -/
def wch (c : UInt8) : Bool := letterN c.toNat || digitN c.toNat
theorem word_all {s : ByteArray} (h : wordB s = true) : ∀ c ∈ s.data.toList, wch c = true := by
  intro c hc
  obtain ⟨i, hi, rfl⟩ := List.getElem_of_mem hc
  unfold wordB at h
  simp only [Bool.and_eq_true] at h
  have h1 := all_range.1 h.2 i (by simpa using hi)
  unfold goodAt byteN at h1
  rw [List.getD, List.getElem?_eq_getElem hi] at h1
  unfold wch
  simp only [Option.getD_some, Bool.or_eq_true, Bool.and_eq_true] at h1 ⊢
  rcases h1 with h1 | h1
  · exact .inl h1
  · exact .inr h1.2

/-! ### values -/
theorem text_head (v : V) (d : Int) (h : mayV v d = true) : ∃ c t, textV v = c :: t ∧ (c = 45 ∨ dgt c = true ∨ c = 34 ∨ c = 36) := by
  by_cases h1 : v.k = 1
  · rw [textV_num v h1]
    obtain ⟨c, t, h2, h3⟩ := itoa_head v.n
    exact ⟨c, t, h2, by rcases h3 with h3 | h3; exact .inl h3; exact .inr (.inl h3)⟩
  · by_cases h2 : v.k = 2
    · rw [textV_sym v h2]; exact ⟨_, _, rfl, .inr (.inr (.inl rfl))⟩
    · by_cases h3 : v.k = 3
      · rw [textV_con v h3]; exact ⟨_, _, rfl, .inr (.inr (.inr rfl))⟩
      · rw [mayV_other v d h1 h2 h3] at h; cases h
theorem stops_close (r : List UInt8) : Stops dgt (41 :: r) := fun c t h => by
  simp only [List.cons.injEq] at h; rw [← h.1]; decide
theorem stops_vs (l : List V) (i : Nat) (r : List UInt8) : Stops dgt (textVs l (i + 1) ++ 41 :: r) := by
  cases l with
  | nil => unfold textVs; exact stops_close r
  | cons x l =>
    unfold textVs
    intro c t h
    simp only [Nat.add_one_ne_zero, if_false, List.cons_append, List.cons.injEq] at h
    rw [← h.1]; decide
theorem v_ext {v u : V} (h1 : v.k = u.k) (h2 : v.n = u.n) (h3 : v.s = u.s) (h4 : v.ps = u.ps) : v = u := by
  cases v; cases u; simp only [V.k, V.n, V.s, V.ps] at h1 h2 h3 h4; subst h1 h2 h3 h4; rfl
theorem may_num {v : V} {d : Int} (h : v.k = 1) (hm : mayV v d = true) : v.s = ⟨#[]⟩ ∧ v.ps = [] := by
  rw [mayV_num v d h] at hm
  simp only [Bool.and_eq_true, decide_eq_true_eq, List.length_eq_zero_iff] at hm
  exact hm
theorem may_sym {v : V} {d : Int} (h : v.k = 2) (hm : mayV v d = true) : v.n = 0 ∧ v.ps = [] := by
  rw [mayV_sym v d h] at hm
  simp only [Bool.and_eq_true, decide_eq_true_eq, List.length_eq_zero_iff] at hm
  exact hm.1
theorem may_con {v : V} {d : Int} (h : v.k = 3) (hm : mayV v d = true) : v.n = 0 ∧ wordB v.s = true ∧ mayVs v.ps (d + 1) = true := by
  rw [mayV_con v d h] at hm
  simp only [Bool.and_eq_true, decide_eq_true_eq] at hm
  exact ⟨hm.1.1.1.1, hm.1.1.1.2, hm.2⟩
theorem ba_ext {a b : ByteArray} (h : a.data.toList = b.data.toList) : a = b := by
  cases a; cases b; congr 1; exact Array.toList_inj.1 h

mutual
theorem text_split : ∀ (v u : V) (d e : Int) (r s : List UInt8), mayV v d = true → mayV u e = true → Stops dgt r → Stops dgt s → textV v ++ r = textV u ++ s → v = u ∧ r = s
  | .mk k n t ps, u, d, e, r, s, hv, hu, hr, hs, h => by
    have hku : u.k = 1 ∨ u.k = 2 ∨ u.k = 3 := by
      by_cases h1 : u.k = 1
      · exact .inl h1
      · by_cases h2 : u.k = 2
        · exact .inr (.inl h2)
        · by_cases h3 : u.k = 3
          · exact .inr (.inr h3)
          · rw [mayV_other u e h1 h2 h3] at hu; cases hu
    by_cases h1 : k = 1
    · have hv' := may_num (v := .mk k n t ps) h1 hv
      rw [textV_num (.mk k n t ps) h1] at h
      rcases hku with h2 | h2 | h2
      · have hu' := may_num h2 hu
        rw [textV_num u h2] at h
        obtain ⟨h3, h4⟩ := itoa_split hr hs h
        exact ⟨v_ext (by show k = _; rw [h1, h2]) h3 (by rw [hv'.1, hu'.1]) (by rw [hv'.2, hu'.2]), h4⟩
      · rw [textV_sym u h2] at h
        obtain ⟨c, x, h3, h4⟩ := itoa_head n
        simp only [V.n] at h
        rw [h3] at h
        simp only [List.cons_append, List.cons.injEq] at h
        rw [h.1] at h4
        exact absurd h4 (by decide)
      · rw [textV_con u h2] at h
        obtain ⟨c, x, h3, h4⟩ := itoa_head n
        simp only [V.n] at h
        rw [h3] at h
        simp only [List.cons_append, List.cons.injEq] at h
        rw [h.1] at h4
        exact absurd h4 (by decide)
    · by_cases h2 : k = 2
      · have hv' := may_sym (v := .mk k n t ps) h2 hv
        rw [textV_sym (.mk k n t ps) h2] at h
        rcases hku with h3 | h3 | h3
        · rw [textV_num u h3] at h
          obtain ⟨c, x, h4, h5⟩ := itoa_head u.n
          rw [h4] at h
          simp only [List.cons_append, List.cons.injEq] at h
          rw [← h.1] at h5
          exact absurd h5 (by decide)
        · have hu' := may_sym h3 hu
          rw [textV_sym u h3] at h
          simp only [List.cons_append, List.cons.injEq, true_and, List.append_assoc, List.nil_append] at h
          obtain ⟨h4, h5⟩ := esc_split h
          exact ⟨v_ext (by show k = _; rw [h2, h3]) (by rw [hv'.1, hu'.1]) (ba_ext h4) (by rw [hv'.2, hu'.2]), h5⟩
        · rw [textV_con u h3] at h
          simp only [List.cons_append, List.cons.injEq] at h
          exact absurd h.1 (by decide)
      · have h3 : k = 3 := by
          by_cases h3 : k = 3
          · exact h3
          · rw [mayV_other (.mk k n t ps) d h1 h2 h3] at hv; cases hv
        have hv' := may_con (v := .mk k n t ps) h3 hv
        rw [textV_con (.mk k n t ps) h3] at h
        rcases hku with h4 | h4 | h4
        · rw [textV_num u h4] at h
          obtain ⟨c, x, h5, h6⟩ := itoa_head u.n
          rw [h5] at h
          simp only [List.cons_append, List.cons.injEq] at h
          rw [← h.1] at h6
          exact absurd h6 (by decide)
        · rw [textV_sym u h4] at h
          simp only [List.cons_append, List.cons.injEq] at h
          exact absurd h.1 (by decide)
        · have hu' := may_con h4 hu
          rw [textV_con u h4] at h
          simp only [List.cons_append, List.cons.injEq, true_and, List.append_assoc, List.nil_append] at h
          have st : ∀ x : List UInt8, Stops wch (40 :: x) := fun x c y e => by simp only [List.cons.injEq] at e; rw [← e.1]; decide
          obtain ⟨h5, h6⟩ := span_split (word_all hv'.2.1) (word_all hu'.2.1) (st _) (st _) h
          simp only [List.cons.injEq, true_and] at h6
          obtain ⟨h7, h8⟩ := texts_split ps u.ps (d + 1) (e + 1) 0 r s hv'.2.2 hu'.2.2 h6
          exact ⟨v_ext (by show k = _; rw [h3, h4]) (by rw [hv'.1, hu'.1]) (ba_ext h5) h7, h8⟩
theorem texts_split : ∀ (l m : List V) (d e : Int) (i : Nat) (r s : List UInt8), mayVs l d = true → mayVs m e = true → textVs l i ++ 41 :: r = textVs m i ++ 41 :: s → l = m ∧ r = s
  | [], [], _, _, i, r, s, _, _, h => by
    unfold textVs at h
    simpa using h
  | [], y :: m, d, e, i, r, s, _, hm, h => by
    exfalso
    unfold mayVs at hm
    simp only [Bool.and_eq_true] at hm
    obtain ⟨c, t, h1, h2⟩ := text_head y e hm.1
    unfold textVs at h
    rw [h1] at h
    by_cases hi : i = 0
    · rw [if_pos hi] at h
      simp only [List.nil_append, List.cons_append, List.cons.injEq] at h
      rw [← h.1] at h2
      exact absurd h2 (by decide)
    · rw [if_neg hi] at h
      simp only [List.nil_append, List.cons_append, List.cons.injEq] at h
      exact absurd h.1 (by decide)
  | x :: l, [], d, e, i, r, s, hl, _, h => by
    exfalso
    unfold mayVs at hl
    simp only [Bool.and_eq_true] at hl
    obtain ⟨c, t, h1, h2⟩ := text_head x d hl.1
    unfold textVs at h
    rw [h1] at h
    by_cases hi : i = 0
    · rw [if_pos hi] at h
      simp only [List.nil_append, List.cons_append, List.cons.injEq] at h
      rw [h.1] at h2
      exact absurd h2 (by decide)
    · rw [if_neg hi] at h
      simp only [List.nil_append, List.cons_append, List.cons.injEq] at h
      exact absurd h.1 (by decide)
  | x :: l, y :: m, d, e, i, r, s, hl, hm, h => by
    unfold mayVs at hl hm
    simp only [Bool.and_eq_true] at hl hm
    have h' : textV x ++ (textVs l (i + 1) ++ 41 :: r) = textV y ++ (textVs m (i + 1) ++ 41 :: s) := by
      rw [textVs, textVs] at h
      by_cases hi : i = 0
      · rw [if_pos hi] at h; simpa using h
      · rw [if_neg hi] at h; simpa using h
    obtain ⟨h1, h2⟩ := text_split x y d e _ _ hl.1 hm.1 (stops_vs l i r) (stops_vs m i s) h'
    obtain ⟨h3, h4⟩ := texts_split l m d e (i + 1) r s hl.2 hm.2 h2
    exact ⟨by rw [h1, h3], h4⟩
end
mutual
theorem stand_same : ∀ (v u : V) (d e : Int), mayV v d = true → mayV u e = true → standV v u = 0 → v = u
  | .mk k n t ps, u, d, e, hv, hu, h => by
    by_cases h0 : (V.mk k n t ps).k = u.k
    · by_cases h1 : k = 1
      · rw [stand_num _ _ h0 h1] at h
        have hv' := may_num (v := .mk k n t ps) h1 hv
        have hu' := may_num (v := u) (by rw [← h0]; exact h1) hu
        exact v_ext h0 ((cmpI_zero _ _).1 h) (by rw [hv'.1, hu'.1]) (by rw [hv'.2, hu'.2])
      · by_cases h2 : k = 2
        · rw [stand_sym _ _ h0 h2] at h
          have hv' := may_sym (v := .mk k n t ps) h2 hv
          have hu' := may_sym (v := u) (by rw [← h0]; exact h2) hu
          exact v_ext h0 (by rw [hv'.1, hu'.1]) ((cmpS_zero _ _).1 h) (by rw [hv'.2, hu'.2])
        · have h3 : k = 3 := by
            by_cases h3 : k = 3
            · exact h3
            · rw [mayV_other (.mk k n t ps) d h1 h2 h3] at hv; cases hv
          have hv' := may_con (v := .mk k n t ps) h3 hv
          have hu' := may_con (v := u) (by rw [← h0]; exact h3) hu
          rw [stand_con _ _ h0 h3] at h
          by_cases h4 : (V.mk k n t ps).s = u.s
          · rw [if_neg (by simp [h4])] at h
            by_cases h5 : (V.mk k n t ps).ps.length = u.ps.length
            · rw [if_neg (by simp [h5])] at h
              exact v_ext h0 (by rw [hv'.1, hu'.1]) h4 (stands_same ps u.ps (d + 1) (e + 1) h5 hv'.2.2 hu'.2.2 h)
            · rw [if_pos h5] at h
              have := (cmpI_zero _ _).1 h
              omega
          · rw [if_pos h4] at h
            exact absurd ((cmpS_zero _ _).1 h) h4
    · rw [stand_kind _ _ h0] at h
      exact absurd ((cmpI_zero _ _).1 h) h0
theorem stands_same : ∀ (l m : List V) (d e : Int), l.length = m.length → mayVs l d = true → mayVs m e = true → standVs l m = 0 → l = m
  | [], [], _, _, _, _, _, _ => rfl
  | [], _ :: _, _, _, h, _, _, _ => by simp at h
  | _ :: _, [], _, _, h, _, _, _ => by simp at h
  | x :: l, y :: m, d, e, hl, h1, h2, h => by
    unfold mayVs at h1 h2
    simp only [Bool.and_eq_true] at h1 h2
    unfold standVs at h
    by_cases h3 : standV x y = 0
    · rw [if_neg (by simp [h3])] at h
      rw [stand_same x y d e h1.1 h2.1 h3, stands_same l m d e (by simpa using hl) h1.2 h2.2 h]
    · rw [if_pos h3] at h; exact absurd h h3
end
mutual
theorem stand_self : ∀ (v : V), standV v v = 0
  | .mk k n s ps => by
    unfold standV
    rw [if_neg (by simp)]
    by_cases h1 : k = 1
    · rw [if_pos h1]; exact (cmpI_zero _ _).2 rfl
    · rw [if_neg h1]
      by_cases h2 : k = 2
      · rw [if_pos h2]; exact (cmpS_zero _ _).2 rfl
      · rw [if_neg h2]
        by_cases h3 : k = 3
        · rw [if_neg (by simp [h3]), if_neg (by simp), if_neg (by simp)]; exact stands_self ps
        · rw [if_pos h3]
theorem stands_self : ∀ (l : List V), standVs l l = 0
  | [] => by unfold standVs; rfl
  | x :: r => by
    unfold standVs
    rw [if_neg (by simp [stand_self x])]
    exact stands_self r
end
theorem right_may {v : V} (h : rightV v = true) : mayV v 0 = true := by rw [right_eq] at h; simp only [Bool.and_eq_true] at h; exact h.2
theorem order_same {v u : V} (hv : rightV v = true) (hu : rightV u = true) : orderV v u = 0 ↔ v = u := by
  unfold orderV
  rw [if_pos hv, if_pos hu]
  exact ⟨fun h => stand_same v u 0 0 (right_may hv) (right_may hu) h, fun h => h ▸ stand_self v⟩
theorem text_same {v u : V} (hv : rightV v = true) (hu : rightV u = true) : textOf v = textOf u ↔ v = u := by
  unfold textOf
  rw [if_pos hv, if_pos hu]
  refine ⟨fun h => ?_, fun h => h ▸ rfl⟩
  have st : Stops dgt [] := fun _ _ h => by cases h
  exact (text_split v u 0 0 [] [] (right_may hv) (right_may hu) st st (by rw [h])).1
end Go.Proofs.YtnddcicadmbmkaaGreatDoor
