/- Sets of numbers that rise: one with a number more, or less (plain law). -/
import Derived.Test.YtmmfndmfibbhcaaIns
namespace Go.Proofs.Ytmmfndmfibbhcaa
open R (In64 InU64 lo64 nth)

theorem sorted_ext : ∀ {L M : List Int}, L.Pairwise (· < ·) → M.Pairwise (· < ·) → (∀ x, x ∈ L ↔ x ∈ M) → L = M
  | [], [], _, _, _ => rfl
  | [], y :: M, _, _, h => absurd ((h y).2 (List.mem_cons_self ..)) (by simp)
  | x :: L, [], _, _, h => absurd ((h x).1 (List.mem_cons_self ..)) (by simp)
  | x :: L, y :: M, hL, hM, h => by
    obtain ⟨l1, l2⟩ := List.pairwise_cons.1 hL
    obtain ⟨m1, m2⟩ := List.pairwise_cons.1 hM
    have exy : x = y := by
      rcases List.mem_cons.1 ((h x).1 (List.mem_cons_self ..)) with e | hx
      · exact e
      · rcases List.mem_cons.1 ((h y).2 (List.mem_cons_self ..)) with e | hy
        · exact e.symm
        · have := m1 x hx
          have := l1 y hy
          omega
    subst exy
    have : L = M := sorted_ext l2 m2 fun z => by
      have hz := h z
      simp only [List.mem_cons] at hz
      constructor
      · intro hm
        rcases hz.1 (.inr hm) with e | e
        · have := l1 z hm; omega
        · exact e
      · intro hm
        rcases hz.2 (.inr hm) with e | e
        · have := m1 z hm; omega
        · exact e
    rw [this]
theorem pos_split : ∀ {L : List Int} (t : Int), L.Pairwise (· < ·) → posOf L t ≤ L.length ∧ (∀ x ∈ L.take (posOf L t), x < t) ∧ (∀ x ∈ L.drop (posOf L t), t ≤ x)
  | [], t, _ => by simp [posOf]
  | x :: L, t, h => by
    obtain ⟨l1, l2⟩ := List.pairwise_cons.1 h
    by_cases hx : x < t
    · obtain ⟨h1, h2, h3⟩ := pos_split t l2
      have e : posOf (x :: L) t = posOf L t + 1 := by
        unfold posOf
        rw [List.filter_cons_of_pos (by simpa using hx)]
        rfl
      rw [e]
      refine ⟨by simp; omega, ?_, by simpa using h3⟩
      intro y hy
      rw [List.take_succ_cons] at hy
      rcases List.mem_cons.1 hy with rfl | hy
      · exact hx
      · exact h2 y hy
    · have e : posOf (x :: L) t = 0 := by
        unfold posOf
        rw [List.filter_eq_nil_iff.2]
        · rfl
        · intro y hy
          rcases List.mem_cons.1 hy with rfl | hy
          · simpa using hx
          · have := l1 y hy
            simp
            omega
      rw [e]
      refine ⟨Nat.zero_le _, by simp, fun y hy => ?_⟩
      rw [List.drop_zero] at hy
      rcases List.mem_cons.1 hy with rfl | hy
      · omega
      · have := l1 y hy
        omega
/-- With a number more. -/
def withL (L : List Int) (e : Int) : List Int := L.take (posOf L e) ++ e :: L.drop (posOf L e)
/-- With the number at its place less. -/
def lessL (L : List Int) (e : Int) : List Int := L.take (posOf L e) ++ L.drop (posOf L e + 1)
theorem mem_withL (L : List Int) (e x : Int) : x ∈ withL L e ↔ x = e ∨ x ∈ L := by
  unfold withL
  rw [List.mem_append, List.mem_cons]
  constructor
  · rintro (h | h | h)
    · exact .inr (List.mem_of_mem_take h)
    · exact .inl h
    · exact .inr (List.mem_of_mem_drop h)
  · rintro (h | h)
    · exact .inr (.inl h)
    · rw [← List.take_append_drop (posOf L e) L] at h
      rcases List.mem_append.1 h with h | h
      · exact .inl h
      · exact .inr (.inr h)
theorem withL_sorted {L : List Int} (e : Int) (h : L.Pairwise (· < ·)) (he : e ∉ L) : (withL L e).Pairwise (· < ·) := by
  obtain ⟨h1, h2, h3⟩ := pos_split e h
  unfold withL
  have hp : (L.take (posOf L e) ++ L.drop (posOf L e)).Pairwise (· < ·) := by rw [List.take_append_drop]; exact h
  obtain ⟨p1, p2, p3⟩ := List.pairwise_append.1 hp
  refine List.pairwise_append.2 ⟨p1, List.pairwise_cons.2 ⟨fun y hy => ?_, p2⟩, fun a ha b hb => ?_⟩
  · have := h3 y hy
    have : y ≠ e := fun c => he (c ▸ List.mem_of_mem_drop hy)
    omega
  · rcases List.mem_cons.1 hb with rfl | hb
    · exact h2 a ha
    · exact p3 a ha b hb
theorem pos_at {L : List Int} {e : Int} (h : L.Pairwise (· < ·)) (he : e ∈ L) : posOf L e < L.length ∧ L = L.take (posOf L e) ++ e :: L.drop (posOf L e + 1) := by
  obtain ⟨h1, h2, h3⟩ := pos_split e h
  have hm : e ∈ L.drop (posOf L e) := by
    rw [← List.take_append_drop (posOf L e) L] at he
    rcases List.mem_append.1 he with c | c
    · have := h2 e c; omega
    · exact c
  have hlt : posOf L e < L.length := by
    rcases Nat.lt_or_ge (posOf L e) L.length with c | c
    · exact c
    · rw [List.drop_eq_nil_of_le c] at hm; cases hm
  have hd : L.drop (posOf L e) = L[posOf L e] :: L.drop (posOf L e + 1) := List.drop_eq_getElem_cons hlt
  have hpw : (L.drop (posOf L e)).Pairwise (· < ·) := h.sublist (List.drop_sublist _ _)
  rw [hd] at hpw hm
  have hx := h3 L[posOf L e] (by rw [hd]; exact List.mem_cons_self ..)
  have hxe : L[posOf L e] = e := by
    rcases List.mem_cons.1 hm with c | c
    · exact c.symm
    · have := (List.pairwise_cons.1 hpw).1 e c; omega
  refine ⟨hlt, ?_⟩
  rw [hxe] at hd
  rw [← hd, List.take_append_drop]
theorem lessL_sorted {L : List Int} (e : Int) (h : L.Pairwise (· < ·)) (he : e ∈ L) : (lessL L e).Pairwise (· < ·) := by
  obtain ⟨_, h1⟩ := pos_at h he
  refine h.sublist ?_
  unfold lessL
  have : (L.take (posOf L e) ++ L.drop (posOf L e + 1)).Sublist (L.take (posOf L e) ++ e :: L.drop (posOf L e + 1)) := (List.Sublist.refl _).append (List.sublist_cons_self _ _)
  rwa [← h1] at this
theorem mem_lessL {L : List Int} {e : Int} (h : L.Pairwise (· < ·)) (he : e ∈ L) (x : Int) : x ∈ lessL L e ↔ x ∈ L ∧ x ≠ e := by
  obtain ⟨_, h1⟩ := pos_at h he
  have hp := h
  rw [h1] at hp
  obtain ⟨p1, p2, p3⟩ := List.pairwise_append.1 hp
  have p4 := (List.pairwise_cons.1 p2).1
  have hm : x ∈ L ↔ x ∈ L.take (posOf L e) ∨ x = e ∨ x ∈ L.drop (posOf L e + 1) := by
    have : x ∈ L ↔ x ∈ L.take (posOf L e) ++ e :: L.drop (posOf L e + 1) := by rw [← h1]
    rw [this, List.mem_append, List.mem_cons]
  unfold lessL
  rw [List.mem_append, hm]
  constructor
  · rintro (c | c)
    · exact ⟨.inl c, by have := p3 x c e (List.mem_cons_self ..); omega⟩
    · exact ⟨.inr (.inr c), by have := p4 x c; omega⟩
  · rintro ⟨c | c | c, d⟩
    · exact .inl c
    · exact absurd c d
    · exact .inr c
theorem withL_len (L : List Int) (e : Int) : (withL L e).length = L.length + 1 := by
  unfold withL
  rw [List.length_append, List.length_cons, List.length_take, List.length_drop]
  omega
theorem lessL_len {L : List Int} {e : Int} (h : posOf L e < L.length) : (lessL L e).length = L.length - 1 := by
  unfold lessL
  rw [List.length_append, List.length_take, List.length_drop]
  omega
/-- The document's answer. -/
def turnP (L : List Int) (e : Int) (b : Bool) (k : Int) : Bool := (decide (k = e) && b) || (decide (k ≠ e) && decide (k ∈ L))
def turnK (L : List Int) (e : Int) (b : Bool) (k : Nat) : List Int := ((List.range k).map Int.ofNat).filter (turnP L e b)
theorem turnK_succ (L : List Int) (e : Int) (b : Bool) (k : Nat) : turnK L e b (k + 1) = turnK L e b k ++ (if turnP L e b (k : Nat) = true then [((k : Nat) : Int)] else []) := by
  unfold turnK
  rw [List.range_succ, List.map_append, List.filter_append]
  congr 1
  by_cases h : turnP L e b (k : Nat) = true
  · rw [if_pos h]; simp [h]
  · rw [if_neg h]; simp [h]
theorem turnK_sorted (L : List Int) (e : Int) (b : Bool) (k : Nat) : (turnK L e b k).Pairwise (· < ·) := by
  unfold turnK
  refine List.Pairwise.filter _ ?_
  rw [List.pairwise_map]
  refine List.Pairwise.imp ?_ List.pairwise_lt_range
  intro a c h
  exact Int.ofNat_lt.2 h
theorem mem_turnK {L : List Int} {many : Int} (ho : okSet L many) {e : Int} (h0 : 0 ≤ e) (h1 : e < many) (b : Bool) (x : Int) : x ∈ turnK L e b many.toNat ↔ (x = e ∧ b = true) ∨ (x ≠ e ∧ x ∈ L) := by
  have hm := ho.1
  unfold turnK
  rw [List.mem_filter]
  constructor
  · rintro ⟨_, h⟩
    unfold turnP at h
    simpa using h
  · intro h
    have hr : 0 ≤ x ∧ x < many := by
      rcases h with ⟨rfl, _⟩ | ⟨_, h⟩
      · exact ⟨h0, h1⟩
      · exact ho.2.2.1 x h
    refine ⟨List.mem_map.2 ⟨x.toNat, List.mem_range.2 (by omega), by show ((x.toNat : Nat) : Int) = x; omega⟩, ?_⟩
    unfold turnP
    simpa using h
theorem turn_with {L : List Int} {many e : Int} (ho : okSet L many) (h0 : 0 ≤ e) (h1 : e < many) (he : e ∉ L) : withL L e = turnK L e true many.toNat :=
  sorted_ext (withL_sorted e ho.2.2.2 he) (turnK_sorted ..) fun x => by
    rw [mem_withL, mem_turnK ho h0 h1]
    constructor
    · rintro (h | h)
      · exact .inl ⟨h, rfl⟩
      · by_cases c : x = e
        · exact .inl ⟨c, rfl⟩
        · exact .inr ⟨c, h⟩
    · rintro (h | h)
      · exact .inl h.1
      · exact .inr h.2
theorem turn_less {L : List Int} {many e : Int} (ho : okSet L many) (h0 : 0 ≤ e) (h1 : e < many) (he : e ∈ L) : lessL L e = turnK L e false many.toNat :=
  sorted_ext (lessL_sorted e ho.2.2.2 he) (turnK_sorted ..) fun x => by
    rw [mem_lessL ho.2.2.2 he, mem_turnK ho h0 h1]
    simp [and_comm]
theorem withL_ok {L : List Int} {many e : Int} (ho : okSet L many) (h0 : 0 ≤ e) (h1 : e < many) (he : e ∉ L) : okSet (withL L e) many :=
  ⟨ho.1, ho.2.1, fun x hx => by
    rcases (mem_withL L e x).1 hx with rfl | h
    · exact ⟨h0, h1⟩
    · exact ho.2.2.1 x h, withL_sorted e ho.2.2.2 he⟩
theorem less_with {L : List Int} {many e : Int} (ho : okSet L many) (he : e ∉ L) : lessL (withL L e) e = L := by
  have hm : e ∈ withL L e := (mem_withL L e e).2 (.inl rfl)
  have hs := withL_sorted e ho.2.2.2 he
  refine sorted_ext (lessL_sorted e hs hm) ho.2.2.2 fun x => ?_
  rw [mem_lessL hs hm, mem_withL]
  constructor
  · rintro ⟨h | h, c⟩
    · exact absurd h c
    · exact h
  · intro h
    exact ⟨.inr h, fun c => he (c ▸ h)⟩
theorem with_with {L : List Int} {many x y : Int} (ho : okSet L many) (hx : x ∉ L) (hy : y ∉ L) (hxy : x ≠ y) : withL (withL L x) y = withL (withL L y) x := by
  have a := withL_sorted x ho.2.2.2 hx
  have b := withL_sorted y ho.2.2.2 hy
  refine sorted_ext (withL_sorted y a fun h => ?_) (withL_sorted x b fun h => ?_) fun z => ?_
  · rcases (mem_withL L x y).1 h with c | c
    · exact hxy c.symm
    · exact hy c
  · rcases (mem_withL L y x).1 h with c | c
    · exact hxy c
    · exact hx c
  · rw [mem_withL, mem_withL, mem_withL, mem_withL]
    constructor
    · rintro (h | h | h)
      · exact .inr (.inl h)
      · exact .inl h
      · exact .inr (.inr h)
    · rintro (h | h | h)
      · exact .inr (.inl h)
      · exact .inl h
      · exact .inr (.inr h)
end Go.Proofs.Ytmmfndmfibbhcaa
