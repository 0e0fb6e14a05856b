/- A region that draws its order, by a plan: what is quiet is taken first, under a condition on the world that need not hold any longer behind what waits for all that is quiet. A region that draws its order, by a tree of plans: where one of two may come up next, both are walked. -/
import Derived.Test.YtmoppmfbfpjdnaaGreatWGo
namespace Go.Proofs.YtmoppmfbfpjdnaaGreat.R
open Go.RowKit

def isLd (ops : Array Oper) (i : Nat) : Bool := match ops[i]? with
  | some o => (match o.op with | .load _ _ => true | _ => false)
  | none => false
/-- Number j does something. -/
def effB (ops : Array Oper) (j : Nat) : Bool := match ops[j]? with
  | some o => (match o.op with | .store _ _ _ => true | .call { callee := .builtin _, .. } => false | .call _ => true | _ => false)
  | none => false
def edgeB (ops : Array Oper) (j i : Nat) : Bool := match ops[j]? with
  | some o => o.after.any fun e => Region.binds .any e && e.on == i
  | none => false
/-- .. and waits for number i. -/
def waitsB (ops : Array Oper) (j i : Nat) : Bool := effB ops j && edgeB ops j i
/-- Number j waits for all that is loaded. -/
def lateB (ops : Array Oper) (j : Nat) : Bool := (List.range ops.size).all fun i => !isLd ops i || waitsB ops j i
/-- A load for which some store does not wait. -/
def partB (ops : Array Oper) (i : Nat) : Bool := (List.range ops.size).any fun j => (match ops[j]? with | some o => (match o.op with | .store _ _ _ => true | _ => false) | none => false) && !edgeB ops j i
/-- Nothing that waits for number i has come up yet. -/
def nl (ops : Array Oper) (i : Nat) (listed : Array Bool) : Bool := (List.range ops.size).all fun k => !(waitsB ops k i && listed.getD k false)
theorem nl_iff {ops : Array Oper} {i : Nat} {listed : Array Bool} : nl ops i listed = true ↔ ∀ k, k < ops.size → waitsB ops k i = true → listed.getD k false = false := by
  unfold nl
  rw [List.all_eq_true]
  constructor
  · intro h k hk hl
    have := h k (List.mem_range.2 hk)
    rw [hl] at this
    simpa using this
  · intro h k hk
    cases hl : waitsB ops k i with
    | false => rfl
    | true => rw [h k (List.mem_range.1 hk) hl]; rfl
theorem nl1 {ops : Array Oper} {i : Nat} {listed : Array Bool} {j : Nat} (h : nl ops i (listed.setIfInBounds j true) = true) : nl ops i listed = true := by
  rw [nl_iff] at h ⊢
  intro k hk hl
  cases hg : listed.getD k false with
  | false => rfl
  | true =>
    have := getD_set_true (i := j) hg
    rw [h k hk hl] at this
    cases this
theorem nl2 {ops : Array Oper} {i : Nat} {listed : Array Bool} {j : Nat} (h : nl ops i listed = true) (hj : waitsB ops j i = false) : nl ops i (listed.setIfInBounds j true) = true := by
  rw [nl_iff] at h ⊢
  intro k hk hl
  by_cases hjk : j = k
  · subst hjk; rw [hj] at hl; cases hl
  · rw [getD_set_ne false hjk]; exact h k hk hl
/-- What is held of the world: for each load till something comes that waits for it. -/
def Held (ops : Array Oper) (S : Nat → World → Prop) (listed : Array Bool) (w : World) : Prop := ∀ i, isLd ops i = true → nl ops i listed = true → S i w
theorem Held.less {ops : Array Oper} {S : Nat → World → Prop} {listed : Array Bool} {j : Nat} {w : World} (h : Held ops S listed w) : Held ops S (listed.setIfInBounds j true) w := fun i hi hn => h i hi (nl1 hn)
def wpAnyX (P : Program) (ops : Array Oper) (Q : Exit → Act → World → Prop) (S : Nat → World → Prop) : Nat → Array Bool → Act → World → Prop
  | 0, listed, a, w => Region.ready .any ops listed = [] ∧ Q .normal a w
  | fuel + 1, listed, a, w => (Region.ready .any ops listed = [] → Q .normal a w) ∧
    ∀ i ∈ Region.ready .any ops listed, wpOp P ops Q i (fun a' w' => Held ops S (listed.setIfInBounds i true) w' ∧ wpAnyX P ops Q S fuel (listed.setIfInBounds i true) a' w') a w
section
variable {P : Program} {ops : Array Oper} {Q : Exit → Act → World → Prop} {S : Nat → World → Prop}
theorem wpAnyX_any : ∀ (fuel : Nat) (listed : Array Bool) (a : Act) (w : World), wpAnyX P ops Q S fuel listed a w → wpAny P .any ops Q fuel listed a w
  | 0, _, _, _, h => h
  | fuel + 1, _, _, _, h => ⟨h.1, fun i hi => wpOp_mono (fun _ _ h' => wpAnyX_any fuel _ _ _ h'.2) (h.2 i hi)⟩
theorem waits_edge {j i : Nat} {o : Oper} (hj : ops[j]? = some o) (h : waitsB ops j i = true) : ∃ e ∈ o.after, Region.binds .any e = true ∧ e.on = i := by
  unfold waitsB edgeB at h
  rw [hj] at h
  simp only [Bool.and_eq_true] at h
  obtain ⟨e, he, hb⟩ := Array.any_eq_true'.1 h.2
  simp only [Bool.and_eq_true, beq_iff_eq] at hb
  exact ⟨e, he, hb⟩
theorem wpAnyX_first {ld : Bool} {i : Nat} {oi : Oper} {v : Value} (hi : ops[i]? = some oi) (hl : ld = true → isLd ops i = true) (he : effB ops i = false) (hsel : ∀ (j : Nat) (o : Oper) cs b, ops[j]? = some o → o.op ≠ .select cs b)
    (hQ : ∀ c a w, Q (.panic c) (a.put oi.dst v) w → Q (.panic c) a w) :
    ∀ (fuel : Nat) (listed : Array Bool) (a : Act) (w : World),
      (∀ j oj, ops[j]? = some oj → j ≠ i → listed.getD j true = false → (∀ e ∈ oj.after, Region.binds .any e = true → e.on ≠ i) → oi.apart ops oj = true) →
      i ∈ Region.ready .any ops listed → YieldsIf P ops (fun w => ld = true → S i w) oi v a → Held ops S listed w → (ld = true → nl ops i listed = true) →
      wpAnyX P ops Q S fuel (listed.setIfInBounds i true) (a.put oi.dst v) w → wpAnyX P ops Q S (fuel + 1) listed a w := by
  intro fuel
  induction fuel with
  | zero =>
    intro listed a w _ hr hy hS hn H
    refine ⟨fun h => (by rw [h] at hr; cases hr), fun j hj => ?_⟩
    by_cases hji : j = i
    · subst hji; exact hy.wpOp hi (fun h => hS _ (hl h) (hn h)) ⟨hS.less, H⟩
    · have := ready_mono hj hji
      rw [H.1] at this
      cases this
  | succ fuel ih =>
    intro listed a w hfree hr hy hS hn H
    refine ⟨fun h => (by rw [h] at hr; cases hr), fun j hj => ?_⟩
    by_cases hji : j = i
    · subst hji; exact hy.wpOp hi (fun h => hS _ (hl h) (hn h)) ⟨hS.less, H⟩
    · have h1 := H.2 j (ready_mono hj hji)
      obtain ⟨hjun, oj, hoj, hall⟩ := mem_ready.1 hj
      have hnot : ∀ e ∈ oj.after, Region.binds .any e = true → e.on ≠ i := fun e he hb heq => by
        have h1 := hall e he hb
        have h0 := (mem_ready.1 hr).1
        rw [heq] at h1
        rcases Nat.lt_or_ge i listed.size with h' | h'
        · simp [h'] at h0 h1; rw [h0] at h1; cases h1
        · simp [Array.getElem?_eq_none h'] at h1
      have hlate : waitsB ops j i = false := by
        cases hx : waitsB ops j i with
        | false => rfl
        | true =>
          obtain ⟨e, he, hb, ho⟩ := waits_edge hoj hx
          exact absurd ho (hnot e he hb)
      have h2 := wpOp_putIf hoj (hfree j oj hoj hji hjun hnot) (fun cs b => hsel i oi cs b hi) (fun cs b => hsel j oj cs b hoj) hQ hy h1
      have hfree' : ∀ k ok, ops[k]? = some ok → k ≠ i → (listed.setIfInBounds j true).getD k true = false →
          (∀ e ∈ ok.after, Region.binds .any e = true → e.on ≠ i) → oi.apart ops ok = true := fun k ok hk hki hun hno => by
        refine hfree k ok hk hki ?_ hno
        by_cases hjk : j = k
        · subst hjk; exact hjun
        · rw [getD_set_ne true hjk] at hun; exact hun
      have hS' : ∀ w', Held ops S ((listed.setIfInBounds i true).setIfInBounds j true) w' → Held ops S (listed.setIfInBounds j true) w' := fun w' h3 k hk h4 => by
        refine h3 k hk ?_
        rw [Array.setIfInBounds_comm _ _ (Ne.symm hji)]
        exact nl2 h4 (by unfold waitsB; rw [he]; rfl)
      refine wpOp_mono (fun a' w' h3 => ?_) h2
      refine ⟨hS' w' h3.2.1, ih (listed.setIfInBounds j true) a' w' hfree' (ready_mono hr (Ne.symm hji)) h3.1 (hS' w' h3.2.1) (fun hd => nl2 (hn hd) hlate) ?_⟩
      rw [Array.setIfInBounds_comm _ _ hji]
      exact h3.2.2
theorem wpAnyX_all {rs : List Nat} {fuel : Nat} {listed : Array Bool} {a : Act} {w : World} (hr : Region.ready .any ops listed = rs) (hne : rs ≠ [])
    (h : ∀ i ∈ rs, wpOp P ops Q i (fun a' w' => Held ops S (listed.setIfInBounds i true) w' ∧ wpAnyX P ops Q S fuel (listed.setIfInBounds i true) a' w') a w) : wpAnyX P ops Q S (fuel + 1) listed a w :=
  ⟨fun h0 => absurd (hr ▸ h0) hne, hr ▸ h⟩
end
theorem WO_mono {P : Program} {o : Oper} {f : Fr} {w : World} {K K' : Value → World → Prop} (h : WO P (callT P) o f w K) (hK : ∀ v w', K v w' → K' v w') : WO P (callT P) o f w K' := by
  unfold WO at h ⊢
  generalize (execOp (ev f) o).run P w = r at *
  cases r with
  | halt x w' => exact h.elim
  | ok x w' =>
    cases x <;> simp only [WU] at h ⊢
    case value v => exact hK _ _ h
    case skip => exact hK _ _ h
    case enter g args => exact Calls.mono h fun _ _ ⟨v, he, hk⟩ => ⟨v, he, hK _ _ hk⟩
def planX (ops : Array Oper) : List (Nat × Bool) → Array Bool → Bool
  | [], listed => (Region.ready .any ops listed).isEmpty
  | (i, e) :: pl, listed => (if e then Region.ready .any ops listed == [i] else Region.free .any ops listed i && ((Region.ready .any ops listed).contains i && ((!isLd ops i || nl ops i listed) && !effB ops i))) && planX ops pl (listed.setIfInBounds i true)
def planXOk (ops : Array Oper) (pl : List (Nat × Bool)) : Bool := pl.length == ops.size && Region.noSelect ops && planX ops pl (Array.replicate ops.size false)
/-- Two conditions: the second one for loads that some store does not wait for. -/
def two (ops : Array Oper) (S0 S1 : World → Prop) (i : Nat) (w : World) : Prop := S0 w ∨ (partB ops i = true ∧ S1 w)
def WX (P : Program) (ops : Array Oper) (n : Nat) (S0 S1 : World → Prop) (K : Fr → World → Prop) (pl : List (Nat × Bool)) (f : Fr) (w : World) : Prop :=
  ∀ a listed, Is n a f → Region.noSelect ops = true → planX ops pl listed = true → Held ops (two ops S0 S1) listed w → wpAnyX P ops (planQ n K) (two ops S0 S1) pl.length listed a w
theorem nl_wait {ops : Array Oper} {listed : Array Bool} {i l : Nat} (hr : Region.ready .any ops listed = [i]) (hl : waitsB ops i l = true) (h : nl ops l (listed.setIfInBounds i true) = true) : False := by
  have hm : i ∈ Region.ready .any ops listed := by rw [hr]; exact .head _
  obtain ⟨hu, o, ho, _⟩ := mem_ready.1 hm
  have hlt : i < listed.size := by
    rcases Nat.lt_or_ge i listed.size with h' | h'
    · exact h'
    · simp [Array.getElem?_eq_none h'] at hu
  have h1 := nl_iff.1 h i (Array.getElem?_eq_some_iff.1 ho).1 hl
  simp [hlt] at h1
theorem ld_lt {ops : Array Oper} {i : Nat} (h : isLd ops i = true) : i < ops.size := by
  rcases Nat.lt_or_ge i ops.size with h1 | h1
  · exact h1
  · unfold isLd at h
    rw [Array.getElem?_eq_none h1] at h
    cases h
def isSt (ops : Array Oper) (j : Nat) : Bool := match ops[j]? with | some o => (match o.op with | .store _ _ _ => true | _ => false) | none => false
theorem st_part {ops : Array Oper} {j i : Nat} (hs : isSt ops j = true) (hw : waitsB ops j i = false) : partB ops i = true := by
  unfold isSt at hs
  cases ho : ops[j]? with
  | none => rw [ho] at hs; cases hs
  | some o =>
    rw [ho] at hs
    have hj := (Array.getElem?_eq_some_iff.1 ho).1
    unfold partB
    rw [List.any_eq_true]
    refine ⟨j, List.mem_range.2 hj, ?_⟩
    unfold waitsB effB at hw
    rw [ho] at hw
    simp only [ho]
    cases hop : o.op <;> simp only [hop] at hs hw ⊢ <;> simp_all
section
variable {P : Program} {n : Nat} {f : Fr} {w : World} {ops : Array Oper} {o : Oper} {S0 S1 : World → Prop} {K : Fr → World → Prop} {pl : List (Nat × Bool)} {i : Nat}
theorem WX_nil (h : K f w) : WX P ops n S0 S1 K [] f w := fun a listed ha _ hp _ =>
  ⟨by simpa [planX] using hp, rfl, f, ha, h⟩
theorem WX_qq {v : Value} (ld : Bool) (hld : ld = true → isLd ops i = true) (hi : ops[i]? = some o) (hd : dstOk n o.dst = true) (hw : ∀ a, Is n a f → (Region.wanted o (yielded ops a.tmps) = true ∧ ∀ w, (ld = true → two ops S0 S1 i w) → (execOp (ev f) o).run P w = .ok (.value v) w) ∨ (Region.wanted o (yielded ops a.tmps) = false ∧ v = undef))
    (hk : WX P ops n S0 S1 K pl (updO f o.dst v) w) : WX P ops n S0 S1 K ((i, false) :: pl) f w := fun a listed ha hs hp hS => by
  simp only [planX, Bool.and_eq_true, Bool.or_eq_true, Bool.not_eq_true', Bool.false_eq_true, if_false] at hp
  obtain ⟨⟨h1, h2, h3, h4⟩, h5⟩ := hp
  refine wpAnyX_first (ld := ld) hi hld h4 (Region.noSelect_spec hs) (fun _ _ _ h => by cases h.1) _ listed a w (Region.free_spec hi h1) (by simpa using h2) ?_ hS (fun hd => ?_) (hk _ _ (ha.put o.dst v hd) hs h5 hS.less)
  · unfold YieldsIf
    rw [ha.eval]
    exact hw a ha
  · rcases h3 with h | h
    · rw [hld hd] at h; cases h
    · exact h
theorem WX_ee (hi : ops[i]? = some o) (hd : dstOk n o.dst = true) (hw : ∀ a, Is n a f → Region.wanted o (yielded ops a.tmps) = true) (h : WO P (callT P) o f w fun v w' => (∀ l, isLd ops l = true → waitsB ops i l = false → two ops S0 S1 l w') ∧ WX P ops n S0 S1 K pl (updO f o.dst v) w') : WX P ops n S0 S1 K ((i, true) :: pl) f w := fun a listed ha hs hp hS => by
  simp only [planX, Bool.and_eq_true, if_true, beq_iff_eq] at hp
  refine wpAnyX_all hp.1 (by simp) fun j hj => ?_
  obtain rfl : j = i := by simpa using hj
  unfold wpOp
  simp only [hi, hw a ha, if_true]
  have hSS : ∀ w', (∀ l, isLd ops l = true → waitsB ops j l = false → two ops S0 S1 l w') → Held ops (two ops S0 S1) (listed.setIfInBounds j true) w' := fun w' h1 l hl h2 => by
    cases hx : waitsB ops j l with
    | false => exact h1 l hl hx
    | true => exact (nl_wait hp.1 hx h2).elim
  exact .inl (wp_of_WO ha h fun v w' hk => ⟨hSS w' hk.1, hk.2 _ _ (ha.put o.dst v hd) hs hp.2 (hSS w' hk.1)⟩)
theorem WX_skip {e : Nat} (hi : ops[i]? = some o) (ho : o.dst = some e) (hd : Nat.blt e n = true) (hw : ∀ a, Is n a f → Region.wanted o (yielded ops a.tmps) = false)
    (hk : WX P ops n S0 S1 K pl (upd f e undef) w) : WX P ops n S0 S1 K ((i, true) :: pl) f w := fun a listed ha hs hp hS => by
  simp only [planX, Bool.and_eq_true, if_true, beq_iff_eq] at hp
  refine wpAnyX_all hp.1 (by simp) fun x hx => ?_
  obtain rfl : x = i := by simpa using hx
  unfold wpOp
  simp only [hi, hw a ha, Bool.false_eq_true, if_false, ho]
  exact ⟨hS.less, hk _ _ (ha.put (some e) undef hd) hs hp.2 hS.less⟩
theorem late_no (hl : lateB ops i = true) {w' : World} : ∀ l, isLd ops l = true → waitsB ops i l = false → two ops S0 S1 l w' := fun l h1 h2 => by
  have h := List.all_eq_true.1 hl l (List.mem_range.2 (ld_lt h1))
  rw [h1, h2] at h
  cases h
theorem part_no (hs : isSt ops i = true) {w' : World} (h : S1 w') : ∀ l, isLd ops l = true → waitsB ops i l = false → two ops S0 S1 l w' := fun _ _ h2 => .inr ⟨st_part hs h2, h⟩
variable {op : Op} {ty : TypeId} {p : String} {af : Array Edge} {d j e : Nat} {b c : Bool} {v : Value}
theorem WX_q0 (hl : isLd ops i = true) (hn : partB ops i = false) (hi : ops[i]? = some ⟨some d, op, ty, p, af, none⟩) (hd : Nat.blt d n = true) (h : ∀ w', S0 w' → WO P callN ⟨some d, op, ty, p, af, none⟩ f w' fun v' w'' => v' = v ∧ w'' = w') (hv : notTup v = true)
    (hk : WX P ops n S0 S1 K pl (upd f d v) w) : WX P ops n S0 S1 K ((i, false) :: pl) f w :=
  WX_qq true (fun _ => hl) hi hd (fun a _ => .inl ⟨by simp [Region.wanted], fun w' hS => quiet_run hv (h w' (by rcases hS rfl with h | h; exact h; rw [hn] at h; cases h.1))⟩) hk
theorem WX_q1 (hl : isLd ops i = true) (h01 : ∀ w', S0 w' → S1 w') (hi : ops[i]? = some ⟨some d, op, ty, p, af, none⟩) (hd : Nat.blt d n = true) (h : ∀ w', S1 w' → WO P callN ⟨some d, op, ty, p, af, none⟩ f w' fun v' w'' => v' = v ∧ w'' = w') (hv : notTup v = true)
    (hk : WX P ops n S0 S1 K pl (upd f d v) w) : WX P ops n S0 S1 K ((i, false) :: pl) f w :=
  WX_qq true (fun _ => hl) hi hd (fun a _ => .inl ⟨by simp [Region.wanted], fun w' hS => quiet_run hv (h w' (by rcases hS rfl with h | h; exact h01 _ h; exact h.2))⟩) hk
theorem WX_p0 (hi : ops[i]? = some ⟨some d, op, ty, p, af, none⟩) (hd : Nat.blt d n = true) (h : ∀ w', True → WO P callN ⟨some d, op, ty, p, af, none⟩ f w' fun v' w'' => v' = v ∧ w'' = w') (hv : notTup v = true)
    (hk : WX P ops n S0 S1 K pl (upd f d v) w) : WX P ops n S0 S1 K ((i, false) :: pl) f w :=
  WX_qq false (fun h => by cases h) hi hd (fun a _ => .inl ⟨by simp [Region.wanted], fun w' _ => quiet_run hv (h w' trivial)⟩) hk
theorem WX_qt0 (hl : isLd ops i = true) (h01 : ∀ w', S0 w' → S1 w') (hi : ops[i]? = some ⟨some d, op, ty, p, af, some (j, b)⟩) (hj : (ops[j]?).bind (·.dst) = some e) (hc : f e = .bool b) (hd : Nat.blt d n = true) (h : ∀ w', S1 w' → WO P callN ⟨some d, op, ty, p, af, some (j, b)⟩ f w' fun v' w'' => v' = v ∧ w'' = w') (hv : notTup v = true)
    (hk : WX P ops n S0 S1 K pl (upd f d v) w) : WX P ops n S0 S1 K ((i, false) :: pl) f w :=
  WX_qq true (fun _ => hl) hi hd (fun a ha => .inl ⟨by rw [wanted_of ha rfl hj hc]; simp, fun w' hS => quiet_run hv (h w' (by rcases hS rfl with h | h; exact h01 _ h; exact h.2))⟩) hk
theorem WX_pt0 (hi : ops[i]? = some ⟨some d, op, ty, p, af, some (j, b)⟩) (hj : (ops[j]?).bind (·.dst) = some e) (hc : f e = .bool b) (hd : Nat.blt d n = true) (h : ∀ w', True → WO P callN ⟨some d, op, ty, p, af, some (j, b)⟩ f w' fun v' w'' => v' = v ∧ w'' = w') (hv : notTup v = true)
    (hk : WX P ops n S0 S1 K pl (upd f d v) w) : WX P ops n S0 S1 K ((i, false) :: pl) f w :=
  WX_qq false (fun h => by cases h) hi hd (fun a ha => .inl ⟨by rw [wanted_of ha rfl hj hc]; simp, fun w' _ => quiet_run hv (h w' trivial)⟩) hk
theorem WX_qs0 (hi : ops[i]? = some ⟨some d, op, ty, p, af, some (j, b)⟩) (hj : (ops[j]?).bind (·.dst) = some e) (hv : f e = .bool c) (hc : (c == b) = false) (hd : Nat.blt d n = true)
    (hk : WX P ops n S0 S1 K pl (upd f d undef) w) : WX P ops n S0 S1 K ((i, false) :: pl) f w :=
  WX_qq false (fun h => by cases h) hi hd (fun a ha => .inr ⟨by rw [wanted_of ha rfl hj hv]; exact hc, rfl⟩) hk
theorem WX_qU (hi : ops[i]? = some ⟨some d, op, ty, p, af, some (j, b)⟩) (hj : (ops[j]?).bind (·.dst) = some e) (hv : f e = undef) (hd : Nat.blt d n = true)
    (hk : WX P ops n S0 S1 K pl (upd f d undef) w) : WX P ops n S0 S1 K ((i, false) :: pl) f w :=
  WX_qq false (fun h => by cases h) hi hd (fun _ ha => .inr ⟨wanted_undef ha rfl hj hv, rfl⟩) hk
theorem WX_e0 (hi : ops[i]? = some ⟨some d, op, ty, p, af, none⟩) (hd : Nat.blt d n = true) (h : WO P (callT P) ⟨some d, op, ty, p, af, none⟩ f w fun v w' => S0 w' ∧ WX P ops n S0 S1 K pl (upd f d v) w') : WX P ops n S0 S1 K ((i, true) :: pl) f w :=
  WX_ee hi hd (fun a _ => by simp [Region.wanted]) (WO_mono h fun _ _ hk => ⟨fun _ _ _ => .inl hk.1, hk.2⟩)
theorem WX_l0 (hi : ops[i]? = some ⟨some d, op, ty, p, af, none⟩) (hl : lateB ops i = true) (hd : Nat.blt d n = true) (h : WO P (callT P) ⟨some d, op, ty, p, af, none⟩ f w fun v w' => WX P ops n S0 S1 K pl (upd f d v) w') : WX P ops n S0 S1 K ((i, true) :: pl) f w :=
  WX_ee hi hd (fun a _ => by simp [Region.wanted]) (WO_mono h fun _ _ hk => ⟨late_no hl, hk⟩)
theorem WX_en0 (hi : ops[i]? = some ⟨none, op, ty, p, af, none⟩) (h : WO P (callT P) ⟨none, op, ty, p, af, none⟩ f w fun _ w' => S0 w' ∧ WX P ops n S0 S1 K pl f w') : WX P ops n S0 S1 K ((i, true) :: pl) f w :=
  WX_ee hi rfl (fun a _ => by simp [Region.wanted]) (WO_mono h fun _ _ hk => ⟨fun _ _ _ => .inl hk.1, hk.2⟩)
theorem WX_sn0 (hi : ops[i]? = some ⟨none, op, ty, p, af, none⟩) (hs : isSt ops i = true) (h : WO P (callT P) ⟨none, op, ty, p, af, none⟩ f w fun _ w' => S1 w' ∧ WX P ops n S0 S1 K pl f w') : WX P ops n S0 S1 K ((i, true) :: pl) f w :=
  WX_ee hi rfl (fun a _ => by simp [Region.wanted]) (WO_mono h fun _ _ hk => ⟨part_no hs hk.1, hk.2⟩)
theorem WX_ln0 (hi : ops[i]? = some ⟨none, op, ty, p, af, none⟩) (hl : lateB ops i = true) (h : WO P (callT P) ⟨none, op, ty, p, af, none⟩ f w fun _ w' => WX P ops n S0 S1 K pl f w') : WX P ops n S0 S1 K ((i, true) :: pl) f w :=
  WX_ee hi rfl (fun a _ => by simp [Region.wanted]) (WO_mono h fun _ _ hk => ⟨late_no hl, hk⟩)
theorem WX_et0 (hi : ops[i]? = some ⟨some d, op, ty, p, af, some (j, b)⟩) (hj : (ops[j]?).bind (·.dst) = some e) (hc : f e = .bool b) (hd : Nat.blt d n = true) (h : WO P (callT P) ⟨some d, op, ty, p, af, some (j, b)⟩ f w fun v w' => S0 w' ∧ WX P ops n S0 S1 K pl (upd f d v) w') : WX P ops n S0 S1 K ((i, true) :: pl) f w :=
  WX_ee hi hd (fun a ha => by rw [wanted_of ha rfl hj hc]; simp) (WO_mono h fun _ _ hk => ⟨fun _ _ _ => .inl hk.1, hk.2⟩)
theorem WX_es0 (hi : ops[i]? = some ⟨some d, op, ty, p, af, some (j, b)⟩) (hj : (ops[j]?).bind (·.dst) = some e) (hv : f e = .bool c) (hc : (c == b) = false) (hd : Nat.blt d n = true)
    (hk : WX P ops n S0 S1 K pl (upd f d undef) w) : WX P ops n S0 S1 K ((i, true) :: pl) f w :=
  WX_skip hi rfl hd (fun a ha => by rw [wanted_of ha rfl hj hv]; exact hc) hk
theorem WX_eU (hi : ops[i]? = some ⟨some d, op, ty, p, af, some (j, b)⟩) (hj : (ops[j]?).bind (·.dst) = some e) (hv : f e = undef) (hd : Nat.blt d n = true)
    (hk : WX P ops n S0 S1 K pl (upd f d undef) w) : WX P ops n S0 S1 K ((i, true) :: pl) f w :=
  WX_skip hi rfl hd (fun _ ha => wanted_undef ha rfl hj hv) hk
theorem WX_split_dec2 {pr : Prop} [Decidable pr] {q : Bool} {o' : Option Nat} (_hi : ops[i]? = some ⟨o', op, ty, p, af, some (j, b)⟩) (_hj : (ops[j]?).bind (·.dst) = some d) (hv : f d = .bool (decide pr))
    (h : Two (pr → WX P ops n S0 S1 K ((i, q) :: pl) (upd f d (.bool true)) w) (¬pr → WX P ops n S0 S1 K ((i, q) :: pl) (upd f d (.bool false)) w)) : WX P ops n S0 S1 K ((i, q) :: pl) f w := by
  by_cases hp : pr
  · have := h.l hp; rwa [upd_same (by rw [hv, decide_eq_true hp])] at this
  · have := h.r hp; rwa [upd_same (by rw [hv, decide_eq_false hp])] at this
theorem WX_split2 {q : Bool} {o' : Option Nat} (_hi : ops[i]? = some ⟨o', op, ty, p, af, some (j, b)⟩) (_hj : (ops[j]?).bind (·.dst) = some d) (hv : f d = .bool c)
    (h : Two (c = true → WX P ops n S0 S1 K ((i, q) :: pl) (upd f d (.bool true)) w) (c = false → WX P ops n S0 S1 K ((i, q) :: pl) (upd f d (.bool false)) w)) : WX P ops n S0 S1 K ((i, q) :: pl) f w := by
  cases hc : c with
  | true => subst hc; have := h.l rfl; rwa [upd_same hv] at this
  | false => subst hc; have := h.r rfl; rwa [upd_same hv] at this
theorem shape_WX (h : WX P ops n S0 S1 K pl f w) : WX P ops n S0 S1 K pl f w := h
/-- A region by a plan: what the call holds of its own holds till something comes that waits for all that is loaded; of it only the first k things behind a store that does not. -/
theorem WC_planS {F : List Nat} {W : World} {L : List Res} {Q : Exit → Fr → World → Prop} {id : Nat} {l : List Oper} (S1 : World → Prop) (pl : List (Nat × Bool)) (hm : P.follows .mixedOrders = true) (hB : planXOk l.toArray pl = true) (hM : Own F W w L)
    (h : ∀ w1, Own F W w1 L → WX P l.toArray n (fun w2 => Own F W w2 L) S1 (fun f' w' => Q .normal f' w') pl f w1) : WC P n Q (.region id l.toArray true) f w := by
  unfold WC
  intro a ha
  simp only [planXOk, Bool.and_eq_true, beq_iff_eq] at hB
  have h1 := h _ hM.drew a _ ha hB.1.2 hB.2 fun _ _ _ => .inl hM.drew
  rw [hB.1.1] at h1
  refine wp_mono (wp_region_any (id := id) (Q := planQ n fun f' w' => Q .normal f' w') hm (wpAnyX_any _ _ _ _ h1)) fun e a' w' he => ?_
  obtain ⟨rfl, f', ha', hq⟩ := he
  exact ⟨f', ha', hq⟩
theorem WC_planX {F : List Nat} {W : World} {L : List Res} {Q : Exit → Fr → World → Prop} {id : Nat} {l : List Oper} (pl : List (Nat × Bool)) (hm : P.follows .mixedOrders = true) (hB : planXOk l.toArray pl = true) (hM : Own F W w L)
    (h : ∀ w1, Own F W w1 L → WX P l.toArray n (fun w2 => Own F W w2 L) (fun w2 => Own F W w2 L) (fun f' w' => Q .normal f' w') pl f w1) : WC P n Q (.region id l.toArray true) f w := WC_planS _ pl hm hB hM h
theorem WC_planXT {F : List Nat} {W : World} {L : List Res} {Q : Exit → Fr → World → Prop} {id : Nat} {l : List Oper} (hm : P.follows .mixedOrders = true) (hB : planXOk l.toArray (textPlan 0 l) = true) (hM : Own F W w L)
    (h : ∀ w1, Own F W w1 L → WX P l.toArray n (fun w2 => Own F W w2 L) (fun w2 => Own F W w2 L) (fun f' w' => Q .normal f' w') (textPlan 0 l) f w1) : WC P n Q (.region id l.toArray true) f w := WC_planS _ _ hm hB hM h
theorem WC_planK {F : List Nat} {W : World} {L : List Res} {Q : Exit → Fr → World → Prop} {id : Nat} {l : List Oper} (k : Nat) (pl : List (Nat × Bool)) (hm : P.follows .mixedOrders = true) (hB : planXOk l.toArray pl = true) (hM : Own F W w L)
    (h : ∀ w1, Own F W w1 L → WX P l.toArray n (fun w2 => Own F W w2 L) (fun w2 => Own F W w2 (L.take k)) (fun f' w' => Q .normal f' w') pl f w1) : WC P n Q (.region id l.toArray true) f w := WC_planS _ pl hm hB hM h
theorem own_self {F : List Nat} {W : World} {L : List Res} : ∀ w', Own F W w' L → Own F W w' L := fun _ h => h
theorem own_pre1 {F : List Nat} {W : World} {r1 : Res} {L : List Res} : ∀ w', Own F W w' (r1 :: L) → Own F W w' [r1] := fun _ h => h.sub (List.sublist_append_left [r1] L)
theorem own_pre2 {F : List Nat} {W : World} {r1 r2 : Res} {L : List Res} : ∀ w', Own F W w' (r1 :: r2 :: L) → Own F W w' [r1, r2] := fun _ h => h.sub (List.sublist_append_left [r1, r2] L)
theorem own_pre3 {F : List Nat} {W : World} {r1 r2 r3 : Res} {L : List Res} : ∀ w', Own F W w' (r1 :: r2 :: r3 :: L) → Own F W w' [r1, r2, r3] := fun _ h => h.sub (List.sublist_append_left [r1, r2, r3] L)
theorem own_pre4 {F : List Nat} {W : World} {r1 r2 r3 r4 : Res} {L : List Res} : ∀ w', Own F W w' (r1 :: r2 :: r3 :: r4 :: L) → Own F W w' [r1, r2, r3, r4] := fun _ h => h.sub (List.sublist_append_left [r1, r2, r3, r4] L)
theorem own_pre5 {F : List Nat} {W : World} {r1 r2 r3 r4 r5 : Res} {L : List Res} : ∀ w', Own F W w' (r1 :: r2 :: r3 :: r4 :: r5 :: L) → Own F W w' [r1, r2, r3, r4, r5] := fun _ h => h.sub (List.sublist_append_left [r1, r2, r3, r4, r5] L)
end
end Go.Proofs.YtmoppmfbfpjdnaaGreat.R
namespace Go.Proofs.YtmoppmfbfpjdnaaGreat.R
open Go.RowKit

inductive PT where
  | nil
  | q (i : Nat) (t : PT)
  | e (i : Nat) (t : PT)
  | f (i j : Nat) (s t : PT)
  | g (i j k : Nat) (s t u : PT)
def PT.len : PT → Nat
  | .nil => 0
  | .q _ t => t.len + 1
  | .e _ t => t.len + 1
  | .f _ _ s _ => s.len + 1
  | .g _ _ _ s _ _ => s.len + 1
def planT (ops : Array Oper) : PT → Array Bool → Bool
  | .nil, listed => (Region.ready .any ops listed).isEmpty
  | .q i t, listed => (Region.free .any ops listed i && ((Region.ready .any ops listed).contains i && ((!isLd ops i || nl ops i listed) && !effB ops i))) && planT ops t (listed.setIfInBounds i true)
  | .e i t, listed => Region.ready .any ops listed == [i] && planT ops t (listed.setIfInBounds i true)
  | .f i j s t, listed => (Region.ready .any ops listed == [i, j] && s.len == t.len) && (planT ops s (listed.setIfInBounds i true) && planT ops t (listed.setIfInBounds j true))
  | .g i j k s t u, listed => (Region.ready .any ops listed == [i, j, k] && (s.len == t.len && s.len == u.len)) && (planT ops s (listed.setIfInBounds i true) && (planT ops t (listed.setIfInBounds j true) && planT ops u (listed.setIfInBounds k true)))
def planTOk (ops : Array Oper) (t : PT) : Bool := t.len == ops.size && Region.noSelect ops && planT ops t (Array.replicate ops.size false)
def WT (P : Program) (ops : Array Oper) (n : Nat) (S0 S1 : World → Prop) (K : Fr → World → Prop) (t : PT) (f : Fr) (w : World) : Prop :=
  ∀ a listed, Is n a f → Region.noSelect ops = true → planT ops t listed = true → Held ops (two ops S0 S1) listed w → wpAnyX P ops (planQ n K) (two ops S0 S1) t.len listed a w
/-- Number i comes up now; behind it the tree goes on. -/
def WE (P : Program) (ops : Array Oper) (n : Nat) (S0 S1 : World → Prop) (K : Fr → World → Prop) (i : Nat) (t : PT) (f : Fr) (w : World) : Prop :=
  ∀ a listed, Is n a f → Region.noSelect ops = true → i ∈ Region.ready .any ops listed → planT ops t (listed.setIfInBounds i true) = true → Held ops (two ops S0 S1) listed w →
    wpOp P ops (planQ n K) i (fun a' w' => Held ops (two ops S0 S1) (listed.setIfInBounds i true) w' ∧ wpAnyX P ops (planQ n K) (two ops S0 S1) t.len (listed.setIfInBounds i true) a' w') a w
theorem nl_mem {ops : Array Oper} {listed : Array Bool} {i l : Nat} (hm : i ∈ Region.ready .any ops listed) (hl : waitsB ops i l = true) (h : nl ops l (listed.setIfInBounds i true) = true) : False := by
  obtain ⟨hu, o, ho, _⟩ := mem_ready.1 hm
  have hlt : i < listed.size := by
    rcases Nat.lt_or_ge i listed.size with h' | h'
    · exact h'
    · simp [Array.getElem?_eq_none h'] at hu
  have h1 := nl_iff.1 h i (Array.getElem?_eq_some_iff.1 ho).1 hl
  simp [hlt] at h1
section
variable {P : Program} {n : Nat} {f : Fr} {w : World} {ops : Array Oper} {o : Oper} {S0 S1 : World → Prop} {K : Fr → World → Prop} {pl s t : PT} {i j' : Nat}
theorem WT_nil (h : K f w) : WT P ops n S0 S1 K .nil f w := fun a listed ha _ hp _ =>
  ⟨by simpa [planT] using hp, rfl, f, ha, h⟩
theorem WT_e (h : WE P ops n S0 S1 K i t f w) : WT P ops n S0 S1 K (.e i t) f w := fun a listed ha hs hp hS => by
  simp only [planT, Bool.and_eq_true, beq_iff_eq] at hp
  refine wpAnyX_all hp.1 (by simp) fun k hk => ?_
  obtain rfl : k = i := by simpa using hk
  exact h a listed ha hs (by rw [hp.1]; exact .head _) hp.2 hS
theorem WT_f (h : Two (WE P ops n S0 S1 K i s f w) (WE P ops n S0 S1 K j' t f w)) : WT P ops n S0 S1 K (.f i j' s t) f w := fun a listed ha hs hp hS => by
  simp only [planT, Bool.and_eq_true, beq_iff_eq] at hp
  obtain ⟨⟨h1, h2⟩, h3, h4⟩ := hp
  refine wpAnyX_all h1 (by simp) fun k hk => ?_
  rcases (by simpa using hk : k = i ∨ k = j') with rfl | rfl
  · exact h.l a listed ha hs (by rw [h1]; exact .head _) h3 hS
  · have := h.r a listed ha hs (by rw [h1]; exact .tail _ (.head _)) h4 hS
    rw [← h2] at this
    exact this
theorem WT_g {u : PT} {k' : Nat} (h : Two (WE P ops n S0 S1 K i s f w) (Two (WE P ops n S0 S1 K j' t f w) (WE P ops n S0 S1 K k' u f w))) : WT P ops n S0 S1 K (.g i j' k' s t u) f w := fun a listed ha hs hp hS => by
  simp only [planT, Bool.and_eq_true, beq_iff_eq] at hp
  obtain ⟨⟨h1, h2, h2'⟩, h3, h4, h5⟩ := hp
  refine wpAnyX_all h1 (by simp) fun k hk => ?_
  rcases (by simpa using hk : k = i ∨ k = j' ∨ k = k') with rfl | rfl | rfl
  · exact h.l a listed ha hs (by rw [h1]; exact .head _) h3 hS
  · have := h.r.l a listed ha hs (by rw [h1]; exact .tail _ (.head _)) h4 hS
    rw [← h2] at this
    exact this
  · have := h.r.r a listed ha hs (by rw [h1]; exact .tail _ (.tail _ (.head _))) h5 hS
    rw [← h2'] at this
    exact this
theorem WT_qq {v : Value} (ld : Bool) (hld : ld = true → isLd ops i = true) (hi : ops[i]? = some o) (hd : dstOk n o.dst = true) (hw : ∀ a, Is n a f → (Region.wanted o (yielded ops a.tmps) = true ∧ ∀ w, (ld = true → two ops S0 S1 i w) → (execOp (ev f) o).run P w = .ok (.value v) w) ∨ (Region.wanted o (yielded ops a.tmps) = false ∧ v = undef))
    (hk : WT P ops n S0 S1 K pl (updO f o.dst v) w) : WT P ops n S0 S1 K (.q i pl) f w := fun a listed ha hs hp hS => by
  simp only [planT, Bool.and_eq_true, Bool.or_eq_true, Bool.not_eq_true'] at hp
  obtain ⟨⟨h1, h2, h3, h4⟩, h5⟩ := hp
  refine wpAnyX_first (ld := ld) hi hld h4 (Region.noSelect_spec hs) (fun _ _ _ h => by cases h.1) _ listed a w (Region.free_spec hi h1) (by simpa using h2) ?_ hS (fun hd => ?_) (hk _ _ (ha.put o.dst v hd) hs h5 hS.less)
  · unfold YieldsIf
    rw [ha.eval]
    exact hw a ha
  · rcases h3 with h | h
    · rw [hld hd] at h; cases h
    · exact h
theorem WT_ee (hi : ops[i]? = some o) (hd : dstOk n o.dst = true) (hw : ∀ a, Is n a f → Region.wanted o (yielded ops a.tmps) = true) (h : WO P (callT P) o f w fun v w' => (∀ l, isLd ops l = true → waitsB ops i l = false → two ops S0 S1 l w') ∧ WT P ops n S0 S1 K pl (updO f o.dst v) w') : WE P ops n S0 S1 K i pl f w := fun a listed ha hs hm hp hS => by
  unfold wpOp
  simp only [hi, hw a ha, if_true]
  have hSS : ∀ w', (∀ l, isLd ops l = true → waitsB ops i l = false → two ops S0 S1 l w') → Held ops (two ops S0 S1) (listed.setIfInBounds i true) w' := fun w' h1 l hl h2 => by
    cases hx : waitsB ops i l with
    | false => exact h1 l hl hx
    | true => exact (nl_mem hm hx h2).elim
  exact .inl (wp_of_WO ha h fun v w' hk => ⟨hSS w' hk.1, hk.2 _ _ (ha.put o.dst v hd) hs hp (hSS w' hk.1)⟩)
theorem WT_skip {e : Nat} (hi : ops[i]? = some o) (ho : o.dst = some e) (hd : Nat.blt e n = true) (hw : ∀ a, Is n a f → Region.wanted o (yielded ops a.tmps) = false)
    (hk : WT P ops n S0 S1 K pl (upd f e undef) w) : WE P ops n S0 S1 K i pl f w := fun a listed ha hs _ hp hS => by
  unfold wpOp
  simp only [hi, hw a ha, Bool.false_eq_true, if_false, ho]
  exact ⟨hS.less, hk _ _ (ha.put (some e) undef hd) hs hp hS.less⟩
variable {op : Op} {ty : TypeId} {p : String} {af : Array Edge} {d j e : Nat} {b c : Bool} {v : Value}
theorem WT_q0 (hl : isLd ops i = true) (hn : partB ops i = false) (hi : ops[i]? = some ⟨some d, op, ty, p, af, none⟩) (hd : Nat.blt d n = true) (h : ∀ w', S0 w' → WO P callN ⟨some d, op, ty, p, af, none⟩ f w' fun v' w'' => v' = v ∧ w'' = w') (hv : notTup v = true)
    (hk : WT P ops n S0 S1 K pl (upd f d v) w) : WT P ops n S0 S1 K (.q i pl) f w :=
  WT_qq true (fun _ => hl) hi hd (fun a _ => .inl ⟨by simp [Region.wanted], fun w' hS => quiet_run hv (h w' (by rcases hS rfl with h | h; exact h; rw [hn] at h; cases h.1))⟩) hk
theorem WT_q1 (hl : isLd ops i = true) (h01 : ∀ w', S0 w' → S1 w') (hi : ops[i]? = some ⟨some d, op, ty, p, af, none⟩) (hd : Nat.blt d n = true) (h : ∀ w', S1 w' → WO P callN ⟨some d, op, ty, p, af, none⟩ f w' fun v' w'' => v' = v ∧ w'' = w') (hv : notTup v = true)
    (hk : WT P ops n S0 S1 K pl (upd f d v) w) : WT P ops n S0 S1 K (.q i pl) f w :=
  WT_qq true (fun _ => hl) hi hd (fun a _ => .inl ⟨by simp [Region.wanted], fun w' hS => quiet_run hv (h w' (by rcases hS rfl with h | h; exact h01 _ h; exact h.2))⟩) hk
theorem WT_p0 (hi : ops[i]? = some ⟨some d, op, ty, p, af, none⟩) (hd : Nat.blt d n = true) (h : ∀ w', True → WO P callN ⟨some d, op, ty, p, af, none⟩ f w' fun v' w'' => v' = v ∧ w'' = w') (hv : notTup v = true)
    (hk : WT P ops n S0 S1 K pl (upd f d v) w) : WT P ops n S0 S1 K (.q i pl) f w :=
  WT_qq false (fun h => by cases h) hi hd (fun a _ => .inl ⟨by simp [Region.wanted], fun w' _ => quiet_run hv (h w' trivial)⟩) hk
theorem WT_qt0 (hl : isLd ops i = true) (h01 : ∀ w', S0 w' → S1 w') (hi : ops[i]? = some ⟨some d, op, ty, p, af, some (j, b)⟩) (hj : (ops[j]?).bind (·.dst) = some e) (hc : f e = .bool b) (hd : Nat.blt d n = true) (h : ∀ w', S1 w' → WO P callN ⟨some d, op, ty, p, af, some (j, b)⟩ f w' fun v' w'' => v' = v ∧ w'' = w') (hv : notTup v = true)
    (hk : WT P ops n S0 S1 K pl (upd f d v) w) : WT P ops n S0 S1 K (.q i pl) f w :=
  WT_qq true (fun _ => hl) hi hd (fun a ha => .inl ⟨by rw [wanted_of ha rfl hj hc]; simp, fun w' hS => quiet_run hv (h w' (by rcases hS rfl with h | h; exact h01 _ h; exact h.2))⟩) hk
theorem WT_pt0 (hi : ops[i]? = some ⟨some d, op, ty, p, af, some (j, b)⟩) (hj : (ops[j]?).bind (·.dst) = some e) (hc : f e = .bool b) (hd : Nat.blt d n = true) (h : ∀ w', True → WO P callN ⟨some d, op, ty, p, af, some (j, b)⟩ f w' fun v' w'' => v' = v ∧ w'' = w') (hv : notTup v = true)
    (hk : WT P ops n S0 S1 K pl (upd f d v) w) : WT P ops n S0 S1 K (.q i pl) f w :=
  WT_qq false (fun h => by cases h) hi hd (fun a ha => .inl ⟨by rw [wanted_of ha rfl hj hc]; simp, fun w' _ => quiet_run hv (h w' trivial)⟩) hk
theorem WT_qs0 (hi : ops[i]? = some ⟨some d, op, ty, p, af, some (j, b)⟩) (hj : (ops[j]?).bind (·.dst) = some e) (hv : f e = .bool c) (hc : (c == b) = false) (hd : Nat.blt d n = true)
    (hk : WT P ops n S0 S1 K pl (upd f d undef) w) : WT P ops n S0 S1 K (.q i pl) f w :=
  WT_qq false (fun h => by cases h) hi hd (fun a ha => .inr ⟨by rw [wanted_of ha rfl hj hv]; exact hc, rfl⟩) hk
theorem WT_qU (hi : ops[i]? = some ⟨some d, op, ty, p, af, some (j, b)⟩) (hj : (ops[j]?).bind (·.dst) = some e) (hv : f e = undef) (hd : Nat.blt d n = true)
    (hk : WT P ops n S0 S1 K pl (upd f d undef) w) : WT P ops n S0 S1 K (.q i pl) f w :=
  WT_qq false (fun h => by cases h) hi hd (fun _ ha => .inr ⟨wanted_undef ha rfl hj hv, rfl⟩) hk
theorem WT_e0 (hi : ops[i]? = some ⟨some d, op, ty, p, af, none⟩) (hd : Nat.blt d n = true) (h : WO P (callT P) ⟨some d, op, ty, p, af, none⟩ f w fun v w' => S0 w' ∧ WT P ops n S0 S1 K pl (upd f d v) w') : WE P ops n S0 S1 K i pl f w :=
  WT_ee hi hd (fun a _ => by simp [Region.wanted]) (WO_mono h fun _ _ hk => ⟨fun _ _ _ => .inl hk.1, hk.2⟩)
theorem WT_l0 (hi : ops[i]? = some ⟨some d, op, ty, p, af, none⟩) (hl : lateB ops i = true) (hd : Nat.blt d n = true) (h : WO P (callT P) ⟨some d, op, ty, p, af, none⟩ f w fun v w' => WT P ops n S0 S1 K pl (upd f d v) w') : WE P ops n S0 S1 K i pl f w :=
  WT_ee hi hd (fun a _ => by simp [Region.wanted]) (WO_mono h fun _ _ hk => ⟨late_no hl, hk⟩)
theorem WT_en0 (hi : ops[i]? = some ⟨none, op, ty, p, af, none⟩) (h : WO P (callT P) ⟨none, op, ty, p, af, none⟩ f w fun _ w' => S0 w' ∧ WT P ops n S0 S1 K pl f w') : WE P ops n S0 S1 K i pl f w :=
  WT_ee hi rfl (fun a _ => by simp [Region.wanted]) (WO_mono h fun _ _ hk => ⟨fun _ _ _ => .inl hk.1, hk.2⟩)
theorem WT_sn0 (hi : ops[i]? = some ⟨none, op, ty, p, af, none⟩) (hs : isSt ops i = true) (h : WO P (callT P) ⟨none, op, ty, p, af, none⟩ f w fun _ w' => S1 w' ∧ WT P ops n S0 S1 K pl f w') : WE P ops n S0 S1 K i pl f w :=
  WT_ee hi rfl (fun a _ => by simp [Region.wanted]) (WO_mono h fun _ _ hk => ⟨part_no hs hk.1, hk.2⟩)
theorem WT_ln0 (hi : ops[i]? = some ⟨none, op, ty, p, af, none⟩) (hl : lateB ops i = true) (h : WO P (callT P) ⟨none, op, ty, p, af, none⟩ f w fun _ w' => WT P ops n S0 S1 K pl f w') : WE P ops n S0 S1 K i pl f w :=
  WT_ee hi rfl (fun a _ => by simp [Region.wanted]) (WO_mono h fun _ _ hk => ⟨late_no hl, hk⟩)
theorem WT_et0 (hi : ops[i]? = some ⟨some d, op, ty, p, af, some (j, b)⟩) (hj : (ops[j]?).bind (·.dst) = some e) (hc : f e = .bool b) (hd : Nat.blt d n = true) (h : WO P (callT P) ⟨some d, op, ty, p, af, some (j, b)⟩ f w fun v w' => S0 w' ∧ WT P ops n S0 S1 K pl (upd f d v) w') : WE P ops n S0 S1 K i pl f w :=
  WT_ee hi hd (fun a ha => by rw [wanted_of ha rfl hj hc]; simp) (WO_mono h fun _ _ hk => ⟨fun _ _ _ => .inl hk.1, hk.2⟩)
theorem WT_es0 (hi : ops[i]? = some ⟨some d, op, ty, p, af, some (j, b)⟩) (hj : (ops[j]?).bind (·.dst) = some e) (hv : f e = .bool c) (hc : (c == b) = false) (hd : Nat.blt d n = true)
    (hk : WT P ops n S0 S1 K pl (upd f d undef) w) : WE P ops n S0 S1 K i pl f w :=
  WT_skip hi rfl hd (fun a ha => by rw [wanted_of ha rfl hj hv]; exact hc) hk
theorem WT_eU (hi : ops[i]? = some ⟨some d, op, ty, p, af, some (j, b)⟩) (hj : (ops[j]?).bind (·.dst) = some e) (hv : f e = undef) (hd : Nat.blt d n = true)
    (hk : WT P ops n S0 S1 K pl (upd f d undef) w) : WE P ops n S0 S1 K i pl f w :=
  WT_skip hi rfl hd (fun _ ha => wanted_undef ha rfl hj hv) hk
theorem WT_split_dec2 {pr : Prop} [Decidable pr] {o' : Option Nat} (_hi : ops[i]? = some ⟨o', op, ty, p, af, some (j, b)⟩) (_hj : (ops[j]?).bind (·.dst) = some d) (hv : f d = .bool (decide pr))
    (h : Two (pr → WT P ops n S0 S1 K (.q i pl) (upd f d (.bool true)) w) (¬pr → WT P ops n S0 S1 K (.q i pl) (upd f d (.bool false)) w)) : WT P ops n S0 S1 K (.q i pl) f w := by
  by_cases hp : pr
  · have := h.l hp; rwa [upd_same (by rw [hv, decide_eq_true hp])] at this
  · have := h.r hp; rwa [upd_same (by rw [hv, decide_eq_false hp])] at this
theorem WE_split_dec2 {pr : Prop} [Decidable pr] {o' : Option Nat} (_hi : ops[i]? = some ⟨o', op, ty, p, af, some (j, b)⟩) (_hj : (ops[j]?).bind (·.dst) = some d) (hv : f d = .bool (decide pr))
    (h : Two (pr → WE P ops n S0 S1 K i pl (upd f d (.bool true)) w) (¬pr → WE P ops n S0 S1 K i pl (upd f d (.bool false)) w)) : WE P ops n S0 S1 K i pl f w := by
  by_cases hp : pr
  · have := h.l hp; rwa [upd_same (by rw [hv, decide_eq_true hp])] at this
  · have := h.r hp; rwa [upd_same (by rw [hv, decide_eq_false hp])] at this
theorem WT_split2 {o' : Option Nat} (_hi : ops[i]? = some ⟨o', op, ty, p, af, some (j, b)⟩) (_hj : (ops[j]?).bind (·.dst) = some d) (hv : f d = .bool c)
    (h : Two (c = true → WT P ops n S0 S1 K (.q i pl) (upd f d (.bool true)) w) (c = false → WT P ops n S0 S1 K (.q i pl) (upd f d (.bool false)) w)) : WT P ops n S0 S1 K (.q i pl) f w := by
  cases hc : c with
  | true => subst hc; have := h.l rfl; rwa [upd_same hv] at this
  | false => subst hc; have := h.r rfl; rwa [upd_same hv] at this
theorem WE_split2 {o' : Option Nat} (_hi : ops[i]? = some ⟨o', op, ty, p, af, some (j, b)⟩) (_hj : (ops[j]?).bind (·.dst) = some d) (hv : f d = .bool c)
    (h : Two (c = true → WE P ops n S0 S1 K i pl (upd f d (.bool true)) w) (c = false → WE P ops n S0 S1 K i pl (upd f d (.bool false)) w)) : WE P ops n S0 S1 K i pl f w := by
  cases hc : c with
  | true => subst hc; have := h.l rfl; rwa [upd_same hv] at this
  | false => subst hc; have := h.r rfl; rwa [upd_same hv] at this
theorem shape_WT (h : WT P ops n S0 S1 K pl f w) : WT P ops n S0 S1 K pl f w := h
theorem shape_WE (h : WE P ops n S0 S1 K i pl f w) : WE P ops n S0 S1 K i pl f w := h
theorem WC_planF {F : List Nat} {W : World} {L : List Res} {Q : Exit → Fr → World → Prop} {id : Nat} {l : List Oper} (t : PT) (hm : P.follows .mixedOrders = true) (hB : planTOk l.toArray t = true) (hM : Own F W w L)
    (h : ∀ w1, Own F W w1 L → WT P l.toArray n (fun w2 => Own F W w2 L) (fun w2 => Own F W w2 L) (fun f' w' => Q .normal f' w') t f w1) : WC P n Q (.region id l.toArray true) f w := by
  unfold WC
  intro a ha
  simp only [planTOk, Bool.and_eq_true, beq_iff_eq] at hB
  have h1 := h _ hM.drew a _ ha hB.1.2 hB.2 fun _ _ _ => .inl hM.drew
  rw [hB.1.1] at h1
  refine wp_mono (wp_region_any (id := id) (Q := planQ n fun f' w' => Q .normal f' w') hm (wpAnyX_any _ _ _ _ h1)) fun e a' w' he => ?_
  obtain ⟨rfl, f', ha', hq⟩ := he
  exact ⟨f', ha', hq⟩
end
end Go.Proofs.YtmoppmfbfpjdnaaGreat.R
namespace Go.Proofs.YtmoppmfbfpjdnaaGreat
open Go.RowKit
open R (In64 InU64 lo64 nth)
end Go.Proofs.YtmoppmfbfpjdnaaGreat
