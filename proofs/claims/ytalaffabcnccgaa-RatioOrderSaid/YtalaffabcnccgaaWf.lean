/- A region that draws its order, by a tree of plans: where one of two may come up next, both are walked. -/
import Derived.Test.YtalaffabcnccgaaWx
namespace Go.Proofs.Ytalaffabcnccgaa.R
open Go.RowKit

inductive PT where
  | nil
  | q (i : Nat) (t : PT)
  | e (i : Nat) (t : PT)
  | f (i j : Nat) (s t : PT)
  | g (i j k : Nat) (s t u : PT)
def PT.len : PT → Nat
  | .nil => 0
  | .q _ t => t.len + 1
  | .e _ t => t.len + 1
  | .f _ _ s _ => s.len + 1
  | .g _ _ _ s _ _ => s.len + 1
def planT (ops : Array Oper) : PT → Array Bool → Bool
  | .nil, listed => (Region.ready .any ops listed).isEmpty
  | .q i t, listed => (Region.free .any ops listed i && ((Region.ready .any ops listed).contains i && ((!isLd ops i || nl ops i listed) && !effB ops i))) && planT ops t (listed.setIfInBounds i true)
  | .e i t, listed => Region.ready .any ops listed == [i] && planT ops t (listed.setIfInBounds i true)
  | .f i j s t, listed => (Region.ready .any ops listed == [i, j] && s.len == t.len) && (planT ops s (listed.setIfInBounds i true) && planT ops t (listed.setIfInBounds j true))
  | .g i j k s t u, listed => (Region.ready .any ops listed == [i, j, k] && (s.len == t.len && s.len == u.len)) && (planT ops s (listed.setIfInBounds i true) && (planT ops t (listed.setIfInBounds j true) && planT ops u (listed.setIfInBounds k true)))
def planTOk (ops : Array Oper) (t : PT) : Bool := t.len == ops.size && Region.noSelect ops && planT ops t (Array.replicate ops.size false)
def WT (P : Program) (ops : Array Oper) (n : Nat) (S0 S1 : World → Prop) (K : Fr → World → Prop) (t : PT) (f : Fr) (w : World) : Prop :=
  ∀ a listed, Is n a f → Region.noSelect ops = true → planT ops t listed = true → Held ops (two ops S0 S1) listed w → wpAnyX P ops (planQ n K) (two ops S0 S1) t.len listed a w
/-- Number i comes up now; behind it the tree goes on. -/
def WE (P : Program) (ops : Array Oper) (n : Nat) (S0 S1 : World → Prop) (K : Fr → World → Prop) (i : Nat) (t : PT) (f : Fr) (w : World) : Prop :=
  ∀ a listed, Is n a f → Region.noSelect ops = true → i ∈ Region.ready .any ops listed → planT ops t (listed.setIfInBounds i true) = true → Held ops (two ops S0 S1) listed w →
    wpOp P ops (planQ n K) i (fun a' w' => Held ops (two ops S0 S1) (listed.setIfInBounds i true) w' ∧ wpAnyX P ops (planQ n K) (two ops S0 S1) t.len (listed.setIfInBounds i true) a' w') a w
theorem nl_mem {ops : Array Oper} {listed : Array Bool} {i l : Nat} (hm : i ∈ Region.ready .any ops listed) (hl : waitsB ops i l = true) (h : nl ops l (listed.setIfInBounds i true) = true) : False := by
  obtain ⟨hu, o, ho, _⟩ := mem_ready.1 hm
  have hlt : i < listed.size := by
    rcases Nat.lt_or_ge i listed.size with h' | h'
    · exact h'
    · simp [Array.getElem?_eq_none h'] at hu
  have h1 := nl_iff.1 h i (Array.getElem?_eq_some_iff.1 ho).1 hl
  simp [hlt] at h1
section
variable {P : Program} {n : Nat} {f : Fr} {w : World} {ops : Array Oper} {o : Oper} {S0 S1 : World → Prop} {K : Fr → World → Prop} {pl s t : PT} {i j' : Nat}
theorem WT_nil (h : K f w) : WT P ops n S0 S1 K .nil f w := fun a listed ha _ hp _ =>
  ⟨by simpa [planT] using hp, rfl, f, ha, h⟩
theorem WT_e (h : WE P ops n S0 S1 K i t f w) : WT P ops n S0 S1 K (.e i t) f w := fun a listed ha hs hp hS => by
  simp only [planT, Bool.and_eq_true, beq_iff_eq] at hp
  refine wpAnyX_all hp.1 (by simp) fun k hk => ?_
  obtain rfl : k = i := by simpa using hk
  exact h a listed ha hs (by rw [hp.1]; exact .head _) hp.2 hS
theorem WT_f (h : Two (WE P ops n S0 S1 K i s f w) (WE P ops n S0 S1 K j' t f w)) : WT P ops n S0 S1 K (.f i j' s t) f w := fun a listed ha hs hp hS => by
  simp only [planT, Bool.and_eq_true, beq_iff_eq] at hp
  obtain ⟨⟨h1, h2⟩, h3, h4⟩ := hp
  refine wpAnyX_all h1 (by simp) fun k hk => ?_
  rcases (by simpa using hk : k = i ∨ k = j') with rfl | rfl
  · exact h.l a listed ha hs (by rw [h1]; exact .head _) h3 hS
  · have := h.r a listed ha hs (by rw [h1]; exact .tail _ (.head _)) h4 hS
    rw [← h2] at this
    exact this
theorem WT_g {u : PT} {k' : Nat} (h : Two (WE P ops n S0 S1 K i s f w) (Two (WE P ops n S0 S1 K j' t f w) (WE P ops n S0 S1 K k' u f w))) : WT P ops n S0 S1 K (.g i j' k' s t u) f w := fun a listed ha hs hp hS => by
  simp only [planT, Bool.and_eq_true, beq_iff_eq] at hp
  obtain ⟨⟨h1, h2, h2'⟩, h3, h4, h5⟩ := hp
  refine wpAnyX_all h1 (by simp) fun k hk => ?_
  rcases (by simpa using hk : k = i ∨ k = j' ∨ k = k') with rfl | rfl | rfl
  · exact h.l a listed ha hs (by rw [h1]; exact .head _) h3 hS
  · have := h.r.l a listed ha hs (by rw [h1]; exact .tail _ (.head _)) h4 hS
    rw [← h2] at this
    exact this
  · have := h.r.r a listed ha hs (by rw [h1]; exact .tail _ (.tail _ (.head _))) h5 hS
    rw [← h2'] at this
    exact this
theorem WT_qq {v : Value} (ld : Bool) (hld : ld = true → isLd ops i = true) (hi : ops[i]? = some o) (hd : dstOk n o.dst = true) (hw : ∀ a, Is n a f → (Region.wanted o (yielded ops a.tmps) = true ∧ ∀ w, (ld = true → two ops S0 S1 i w) → (execOp (ev f) o).run P w = .ok (.value v) w) ∨ (Region.wanted o (yielded ops a.tmps) = false ∧ v = undef))
    (hk : WT P ops n S0 S1 K pl (updO f o.dst v) w) : WT P ops n S0 S1 K (.q i pl) f w := fun a listed ha hs hp hS => by
  simp only [planT, Bool.and_eq_true, Bool.or_eq_true, Bool.not_eq_true'] at hp
  obtain ⟨⟨h1, h2, h3, h4⟩, h5⟩ := hp
  refine wpAnyX_first (ld := ld) hi hld h4 (Region.noSelect_spec hs) (fun _ _ _ h => by cases h.1) _ listed a w (Region.free_spec hi h1) (by simpa using h2) ?_ hS (fun hd => ?_) (hk _ _ (ha.put o.dst v hd) hs h5 hS.less)
  · unfold YieldsIf
    rw [ha.eval]
    exact hw a ha
  · rcases h3 with h | h
    · rw [hld hd] at h; cases h
    · exact h
theorem WT_ee (hi : ops[i]? = some o) (hd : dstOk n o.dst = true) (hw : ∀ a, Is n a f → Region.wanted o (yielded ops a.tmps) = true) (h : WO P (callT P) o f w fun v w' => (∀ l, isLd ops l = true → waitsB ops i l = false → two ops S0 S1 l w') ∧ WT P ops n S0 S1 K pl (updO f o.dst v) w') : WE P ops n S0 S1 K i pl f w := fun a listed ha hs hm hp hS => by
  unfold wpOp
  simp only [hi, hw a ha, if_true]
  have hSS : ∀ w', (∀ l, isLd ops l = true → waitsB ops i l = false → two ops S0 S1 l w') → Held ops (two ops S0 S1) (listed.setIfInBounds i true) w' := fun w' h1 l hl h2 => by
    cases hx : waitsB ops i l with
    | false => exact h1 l hl hx
    | true => exact (nl_mem hm hx h2).elim
  exact .inl (wp_of_WO ha h fun v w' hk => ⟨hSS w' hk.1, hk.2 _ _ (ha.put o.dst v hd) hs hp (hSS w' hk.1)⟩)
theorem WT_skip {e : Nat} (hi : ops[i]? = some o) (ho : o.dst = some e) (hd : Nat.blt e n = true) (hw : ∀ a, Is n a f → Region.wanted o (yielded ops a.tmps) = false)
    (hk : WT P ops n S0 S1 K pl (upd f e undef) w) : WE P ops n S0 S1 K i pl f w := fun a listed ha hs _ hp hS => by
  unfold wpOp
  simp only [hi, hw a ha, Bool.false_eq_true, if_false, ho]
  exact ⟨hS.less, hk _ _ (ha.put (some e) undef hd) hs hp hS.less⟩
variable {op : Op} {ty : TypeId} {p : String} {af : Array Edge} {d j e : Nat} {b c : Bool} {v : Value}
theorem WT_q0 (hl : isLd ops i = true) (hn : partB ops i = false) (hi : ops[i]? = some ⟨some d, op, ty, p, af, none⟩) (hd : Nat.blt d n = true) (h : ∀ w', S0 w' → WO P callN ⟨some d, op, ty, p, af, none⟩ f w' fun v' w'' => v' = v ∧ w'' = w') (hv : notTup v = true)
    (hk : WT P ops n S0 S1 K pl (upd f d v) w) : WT P ops n S0 S1 K (.q i pl) f w :=
  WT_qq true (fun _ => hl) hi hd (fun a _ => .inl ⟨by simp [Region.wanted], fun w' hS => quiet_run hv (h w' (by rcases hS rfl with h | h; exact h; rw [hn] at h; cases h.1))⟩) hk
theorem WT_q1 (hl : isLd ops i = true) (h01 : ∀ w', S0 w' → S1 w') (hi : ops[i]? = some ⟨some d, op, ty, p, af, none⟩) (hd : Nat.blt d n = true) (h : ∀ w', S1 w' → WO P callN ⟨some d, op, ty, p, af, none⟩ f w' fun v' w'' => v' = v ∧ w'' = w') (hv : notTup v = true)
    (hk : WT P ops n S0 S1 K pl (upd f d v) w) : WT P ops n S0 S1 K (.q i pl) f w :=
  WT_qq true (fun _ => hl) hi hd (fun a _ => .inl ⟨by simp [Region.wanted], fun w' hS => quiet_run hv (h w' (by rcases hS rfl with h | h; exact h01 _ h; exact h.2))⟩) hk
theorem WT_p0 (hi : ops[i]? = some ⟨some d, op, ty, p, af, none⟩) (hd : Nat.blt d n = true) (h : ∀ w', True → WO P callN ⟨some d, op, ty, p, af, none⟩ f w' fun v' w'' => v' = v ∧ w'' = w') (hv : notTup v = true)
    (hk : WT P ops n S0 S1 K pl (upd f d v) w) : WT P ops n S0 S1 K (.q i pl) f w :=
  WT_qq false (fun h => by cases h) hi hd (fun a _ => .inl ⟨by simp [Region.wanted], fun w' _ => quiet_run hv (h w' trivial)⟩) hk
theorem WT_qt0 (hl : isLd ops i = true) (h01 : ∀ w', S0 w' → S1 w') (hi : ops[i]? = some ⟨some d, op, ty, p, af, some (j, b)⟩) (hj : (ops[j]?).bind (·.dst) = some e) (hc : f e = .bool b) (hd : Nat.blt d n = true) (h : ∀ w', S1 w' → WO P callN ⟨some d, op, ty, p, af, some (j, b)⟩ f w' fun v' w'' => v' = v ∧ w'' = w') (hv : notTup v = true)
    (hk : WT P ops n S0 S1 K pl (upd f d v) w) : WT P ops n S0 S1 K (.q i pl) f w :=
  WT_qq true (fun _ => hl) hi hd (fun a ha => .inl ⟨by rw [wanted_of ha rfl hj hc]; simp, fun w' hS => quiet_run hv (h w' (by rcases hS rfl with h | h; exact h01 _ h; exact h.2))⟩) hk
theorem WT_pt0 (hi : ops[i]? = some ⟨some d, op, ty, p, af, some (j, b)⟩) (hj : (ops[j]?).bind (·.dst) = some e) (hc : f e = .bool b) (hd : Nat.blt d n = true) (h : ∀ w', True → WO P callN ⟨some d, op, ty, p, af, some (j, b)⟩ f w' fun v' w'' => v' = v ∧ w'' = w') (hv : notTup v = true)
    (hk : WT P ops n S0 S1 K pl (upd f d v) w) : WT P ops n S0 S1 K (.q i pl) f w :=
  WT_qq false (fun h => by cases h) hi hd (fun a ha => .inl ⟨by rw [wanted_of ha rfl hj hc]; simp, fun w' _ => quiet_run hv (h w' trivial)⟩) hk
theorem WT_qs0 (hi : ops[i]? = some ⟨some d, op, ty, p, af, some (j, b)⟩) (hj : (ops[j]?).bind (·.dst) = some e) (hv : f e = .bool c) (hc : (c == b) = false) (hd : Nat.blt d n = true)
    (hk : WT P ops n S0 S1 K pl (upd f d undef) w) : WT P ops n S0 S1 K (.q i pl) f w :=
  WT_qq false (fun h => by cases h) hi hd (fun a ha => .inr ⟨by rw [wanted_of ha rfl hj hv]; exact hc, rfl⟩) hk
theorem WT_qU (hi : ops[i]? = some ⟨some d, op, ty, p, af, some (j, b)⟩) (hj : (ops[j]?).bind (·.dst) = some e) (hv : f e = undef) (hd : Nat.blt d n = true)
    (hk : WT P ops n S0 S1 K pl (upd f d undef) w) : WT P ops n S0 S1 K (.q i pl) f w :=
  WT_qq false (fun h => by cases h) hi hd (fun _ ha => .inr ⟨wanted_undef ha rfl hj hv, rfl⟩) hk
theorem WT_e0 (hi : ops[i]? = some ⟨some d, op, ty, p, af, none⟩) (hd : Nat.blt d n = true) (h : WO P (callT P) ⟨some d, op, ty, p, af, none⟩ f w fun v w' => S0 w' ∧ WT P ops n S0 S1 K pl (upd f d v) w') : WE P ops n S0 S1 K i pl f w :=
  WT_ee hi hd (fun a _ => by simp [Region.wanted]) (WO_mono h fun _ _ hk => ⟨fun _ _ _ => .inl hk.1, hk.2⟩)
theorem WT_l0 (hi : ops[i]? = some ⟨some d, op, ty, p, af, none⟩) (hl : lateB ops i = true) (hd : Nat.blt d n = true) (h : WO P (callT P) ⟨some d, op, ty, p, af, none⟩ f w fun v w' => WT P ops n S0 S1 K pl (upd f d v) w') : WE P ops n S0 S1 K i pl f w :=
  WT_ee hi hd (fun a _ => by simp [Region.wanted]) (WO_mono h fun _ _ hk => ⟨late_no hl, hk⟩)
theorem WT_en0 (hi : ops[i]? = some ⟨none, op, ty, p, af, none⟩) (h : WO P (callT P) ⟨none, op, ty, p, af, none⟩ f w fun _ w' => S0 w' ∧ WT P ops n S0 S1 K pl f w') : WE P ops n S0 S1 K i pl f w :=
  WT_ee hi rfl (fun a _ => by simp [Region.wanted]) (WO_mono h fun _ _ hk => ⟨fun _ _ _ => .inl hk.1, hk.2⟩)
theorem WT_sn0 (hi : ops[i]? = some ⟨none, op, ty, p, af, none⟩) (hs : isSt ops i = true) (h : WO P (callT P) ⟨none, op, ty, p, af, none⟩ f w fun _ w' => S1 w' ∧ WT P ops n S0 S1 K pl f w') : WE P ops n S0 S1 K i pl f w :=
  WT_ee hi rfl (fun a _ => by simp [Region.wanted]) (WO_mono h fun _ _ hk => ⟨part_no hs hk.1, hk.2⟩)
theorem WT_ln0 (hi : ops[i]? = some ⟨none, op, ty, p, af, none⟩) (hl : lateB ops i = true) (h : WO P (callT P) ⟨none, op, ty, p, af, none⟩ f w fun _ w' => WT P ops n S0 S1 K pl f w') : WE P ops n S0 S1 K i pl f w :=
  WT_ee hi rfl (fun a _ => by simp [Region.wanted]) (WO_mono h fun _ _ hk => ⟨late_no hl, hk⟩)
theorem WT_et0 (hi : ops[i]? = some ⟨some d, op, ty, p, af, some (j, b)⟩) (hj : (ops[j]?).bind (·.dst) = some e) (hc : f e = .bool b) (hd : Nat.blt d n = true) (h : WO P (callT P) ⟨some d, op, ty, p, af, some (j, b)⟩ f w fun v w' => S0 w' ∧ WT P ops n S0 S1 K pl (upd f d v) w') : WE P ops n S0 S1 K i pl f w :=
  WT_ee hi hd (fun a ha => by rw [wanted_of ha rfl hj hc]; simp) (WO_mono h fun _ _ hk => ⟨fun _ _ _ => .inl hk.1, hk.2⟩)
theorem WT_es0 (hi : ops[i]? = some ⟨some d, op, ty, p, af, some (j, b)⟩) (hj : (ops[j]?).bind (·.dst) = some e) (hv : f e = .bool c) (hc : (c == b) = false) (hd : Nat.blt d n = true)
    (hk : WT P ops n S0 S1 K pl (upd f d undef) w) : WE P ops n S0 S1 K i pl f w :=
  WT_skip hi rfl hd (fun a ha => by rw [wanted_of ha rfl hj hv]; exact hc) hk
theorem WT_eU (hi : ops[i]? = some ⟨some d, op, ty, p, af, some (j, b)⟩) (hj : (ops[j]?).bind (·.dst) = some e) (hv : f e = undef) (hd : Nat.blt d n = true)
    (hk : WT P ops n S0 S1 K pl (upd f d undef) w) : WE P ops n S0 S1 K i pl f w :=
  WT_skip hi rfl hd (fun _ ha => wanted_undef ha rfl hj hv) hk
theorem WT_split_dec2 {pr : Prop} [Decidable pr] {o' : Option Nat} (_hi : ops[i]? = some ⟨o', op, ty, p, af, some (j, b)⟩) (_hj : (ops[j]?).bind (·.dst) = some d) (hv : f d = .bool (decide pr))
    (h : Two (pr → WT P ops n S0 S1 K (.q i pl) (upd f d (.bool true)) w) (¬pr → WT P ops n S0 S1 K (.q i pl) (upd f d (.bool false)) w)) : WT P ops n S0 S1 K (.q i pl) f w := by
  by_cases hp : pr
  · have := h.l hp; rwa [upd_same (by rw [hv, decide_eq_true hp])] at this
  · have := h.r hp; rwa [upd_same (by rw [hv, decide_eq_false hp])] at this
theorem WE_split_dec2 {pr : Prop} [Decidable pr] {o' : Option Nat} (_hi : ops[i]? = some ⟨o', op, ty, p, af, some (j, b)⟩) (_hj : (ops[j]?).bind (·.dst) = some d) (hv : f d = .bool (decide pr))
    (h : Two (pr → WE P ops n S0 S1 K i pl (upd f d (.bool true)) w) (¬pr → WE P ops n S0 S1 K i pl (upd f d (.bool false)) w)) : WE P ops n S0 S1 K i pl f w := by
  by_cases hp : pr
  · have := h.l hp; rwa [upd_same (by rw [hv, decide_eq_true hp])] at this
  · have := h.r hp; rwa [upd_same (by rw [hv, decide_eq_false hp])] at this
theorem WT_split2 {o' : Option Nat} (_hi : ops[i]? = some ⟨o', op, ty, p, af, some (j, b)⟩) (_hj : (ops[j]?).bind (·.dst) = some d) (hv : f d = .bool c)
    (h : Two (c = true → WT P ops n S0 S1 K (.q i pl) (upd f d (.bool true)) w) (c = false → WT P ops n S0 S1 K (.q i pl) (upd f d (.bool false)) w)) : WT P ops n S0 S1 K (.q i pl) f w := by
  cases hc : c with
  | true => subst hc; have := h.l rfl; rwa [upd_same hv] at this
  | false => subst hc; have := h.r rfl; rwa [upd_same hv] at this
theorem WE_split2 {o' : Option Nat} (_hi : ops[i]? = some ⟨o', op, ty, p, af, some (j, b)⟩) (_hj : (ops[j]?).bind (·.dst) = some d) (hv : f d = .bool c)
    (h : Two (c = true → WE P ops n S0 S1 K i pl (upd f d (.bool true)) w) (c = false → WE P ops n S0 S1 K i pl (upd f d (.bool false)) w)) : WE P ops n S0 S1 K i pl f w := by
  cases hc : c with
  | true => subst hc; have := h.l rfl; rwa [upd_same hv] at this
  | false => subst hc; have := h.r rfl; rwa [upd_same hv] at this
theorem shape_WT (h : WT P ops n S0 S1 K pl f w) : WT P ops n S0 S1 K pl f w := h
theorem shape_WE (h : WE P ops n S0 S1 K i pl f w) : WE P ops n S0 S1 K i pl f w := h
theorem WC_planF {F : List Nat} {W : World} {L : List Res} {Q : Exit → Fr → World → Prop} {id : Nat} {l : List Oper} (t : PT) (hm : P.follows .mixedOrders = true) (hB : planTOk l.toArray t = true) (hM : Own F W w L)
    (h : ∀ w1, Own F W w1 L → WT P l.toArray n (fun w2 => Own F W w2 L) (fun w2 => Own F W w2 L) (fun f' w' => Q .normal f' w') t f w1) : WC P n Q (.region id l.toArray true) f w := by
  unfold WC
  intro a ha
  simp only [planTOk, Bool.and_eq_true, beq_iff_eq] at hB
  have h1 := h _ hM.drew a _ ha hB.1.2 hB.2 fun _ _ _ => .inl hM.drew
  rw [hB.1.1] at h1
  refine wp_mono (wp_region_any (id := id) (Q := planQ n fun f' w' => Q .normal f' w') hm (wpAnyX_any _ _ _ _ h1)) fun e a' w' he => ?_
  obtain ⟨rfl, f', ha', hq⟩ := he
  exact ⟨f', ha', hq⟩
end
end Go.Proofs.Ytalaffabcnccgaa.R
namespace Go.Proofs.Ytalaffabcnccgaa
open Go.RowKit
open R (In64 InU64 lo64 nth)
end Go.Proofs.Ytalaffabcnccgaa
