/- Sessions as bytes: what is put is got, what is got was put. -/
import Derived.Test.YtegbidklcaccjaaSvE
namespace Go.Proofs.Ytegbidklcaccjaa
open Go.RowKit
open R (In64 InU64 lo64 nth)
theorem byte_num : ∀ (k : Nat) (u : Int), 0 ≤ u → u < 128 ^ (k + 1) → byte (numB u)
  | 0, u, h0, h1 => by
    rw [numB_lo (by simp at h1; omega)]
    intro x hx
    simp at hx h1
    omega
  | k + 1, u, h0, h1 => by
    by_cases h : 128 ≤ u
    · rw [numB_hi h]
      intro x hx
      rcases List.mem_cons.1 hx with rfl | hx
      · omega
      · exact byte_num k (u / 128) (by omega) (by rw [Int.pow_succ] at h1; omega) x hx
    · rw [numB_lo h]
      intro x hx
      simp at hx
      omega
theorem putV_eq (p : Pln) : putV p = 83 :: flB (numsV p) := rfl
theorem nums_sml {p : Pln} (h : MayP p) : ∀ v ∈ numsV p, sml v := fun v hv => by
  have h9 := h.2.2.2.2.2.2.2.2
  rw [List.any_eq_false] at h9
  have := badN_in (Bool.eq_false_iff.2 (h9 v hv))
  exact this
theorem byte_put {p : Pln} (h : MayP p) : byte (putV p) := fun x hx => by
  rw [putV_eq] at hx
  rcases List.mem_cons.1 hx with rfl | hx
  · omega
  · obtain ⟨v, hv, hx⟩ := List.mem_flatMap.1 hx
    have hs := nums_sml h v hv
    have hz := zig_in hs.1 hs.2
    exact byte_num 8 (zig v) hz.1 (by omega) x hx
theorem plain_of {p : Pln} (hw : WLP p) (h : MayP p) : rPlain (flB (numsV p), false) = (vP p, ([], false)) := by
  have hs := nums_sml h
  rw [numsV_v hw] at hs ⊢
  have hm : ∀ v, (v = (vP p).st ∨ v = (vP p).pol ∨ (∃ x ∈ (vP p).rd, v ∈ numsRV x) ∨ (∃ b ∈ (vP p).bn, v ∈ numsB b) ∨ v ∈ (vP p).cl) → sml v := fun v hv => hs v (by
    unfold numsPV
    simp only [List.mem_append, List.mem_flatMap, List.mem_cons]
    rcases hv with h | h | h | h | h
    · exact .inl (.inl (.inl (.inl (.inl (.inl h)))))
    · exact .inl (.inl (.inl (.inr (.inl h))))
    · exact .inl (.inl (.inl (.inl (.inr h))))
    · exact .inl (.inl (.inr h))
    · exact .inr h)
  obtain ⟨m1, m2, m3, m4, m5, m6, m7, m8, m9⟩ := h
  have hall := errAll_ok m1
  have hok : ∀ z ∈ p.rd.L, errR z = 0 := fun x hx => by obtain ⟨j, hj, rfl⟩ := mem_nthR hx; exact hall.2.1 j hj
  have h200 := hall.1
  refine plain_put ⟨m2, m3⟩ ?_ ?_ (hm _ (.inr (.inl rfl))) ?_ ?_ ?_ ?_
  · show (p.rd.L.map vR).length ≤ 200
    rw [List.length_map]
    exact h200
  · intro x hx
    have hx' := hx
    obtain ⟨z, hz, rfl⟩ := List.mem_map.1 (show x ∈ p.rd.L.map vR from hx)
    have hr := errR_ok (hok z hz)
    have hwz := hw.2.2.2 z hz
    have hin : ∀ v ∈ numsRV (vR z), sml v := fun v hv => hm v (.inr (.inr (.inl ⟨_, hx', hv⟩)))
    have h1 := hwz.1
    have h2 := hwz.2
    refine ⟨hin _ ?_, ?_, ?_, ?_, ?_⟩
    · unfold numsRV; simp
    · show z.p.L.length ≤ 100; omega
    · show z.q.L.length = z.p.L.length - 1; omega
    · intro q hq
      refine ⟨hin _ ?_, hin _ ?_⟩
      · unfold numsRV
        simp only [List.mem_append, List.mem_flatMap]
        exact .inl (.inr ⟨q, hq, by simp [numsP]⟩)
      · unfold numsRV
        simp only [List.mem_append, List.mem_flatMap]
        exact .inl (.inr ⟨q, hq, by simp [numsP]⟩)
    · intro v hv
      refine hin _ ?_
      unfold numsRV
      simp only [List.mem_append]
      exact .inr hv
  · show p.bn.L.length ≤ 2000
    have := hw.2.1
    omega
  · intro b hb
    exact ⟨hm _ (.inr (.inr (.inr (.inl ⟨b, hb, by simp [numsB]⟩)))), hm _ (.inr (.inr (.inr (.inl ⟨b, hb, by simp [numsB]⟩))))⟩
  · show p.cl.L.length ≤ 2000
    have := hw.2.2.1
    omega
  · intro v hv
    exact hm _ (.inr (.inr (.inr (.inr hv))))
theorem got_put {p : Pln} {T : List Int} (hw : WLP p) (hb : byte T) (h : rPlain (T, false) = (vP p, ([], false))) : putV p = 83 :: T := by
  have hs := snd_Plain (T, false) hb
  rw [h] at hs
  have := (hs.2 rfl).2
  dsimp only at this
  rw [putV_eq, numsV_v hw, this, List.append_nil]
end Go.Proofs.Ytegbidklcaccjaa
