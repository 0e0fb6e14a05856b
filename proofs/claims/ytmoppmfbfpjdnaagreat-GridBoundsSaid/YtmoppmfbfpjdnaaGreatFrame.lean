/- From a walk's end to the row: whatever the call made, what was there reads as before. And arguments by value, opened. -/
import Derived.Test.YtmoppmfbfpjdnaaGreatRows
import Derived.Test.YtmoppmfbfpjdnaaGreatEng
import Derived.ProofKit
import Derived.OpenShut
import Derived.Carry
namespace Go.Proofs.YtmoppmfbfpjdnaaGreat
open Go.ChangeShapes Go.WideShapes Go.ChangeAt Go.RowKit

theorem ownKnob_none : ownKnob Tryz.prog.godebug = none := by kernel_rfl
theorem laidOut : laidOutB Tryz.prog = true := by kernel_rfl

section
variable {H : Type} {enc : TypeId × Value → H} {P : Program}

/-- All arguments read behind the call as before it. -/
theorem args_stay (hl : laidOutB P = true) {W W' : World} (hb : Below W.heap.size W W') {sp : Nat → Bool} : ∀ {ts : List TypeId} {vs : List Value} {ds : List (DataW H)} {ps : List MemPlace},
    DataW.TrodAll enc P W 0 (fun _ => true) true ts vs ds ps → (ts.all fun t => P.readableRec t && decide (t < P.types.size)) = true → (∀ p ∈ ps, p.block < W.heap.size) → (∀ p ∈ ps, sp p.block = true) → DataW.TrodAll enc P W' 0 sp true ts vs ds ps
  | [], _, _, _, h, _, _, _ => by
    obtain ⟨rfl, rfl, rfl⟩ := trodAll_nil h
    exact trodAll_mk0
  | t :: ts, _, _, _, h, hr, hlt, hs => by
    obtain ⟨v, vs, d, ds, p, q, rfl, rfl, rfl, h1, h2⟩ := trodAll_cons h
    simp only [List.all_cons, Bool.and_eq_true, decide_eq_true_eq] at hr
    refine trodAll_cons_mk (WideElems.Trod_stays hl hr.1.1 hr.1.2 h1 (fun x hx => hb.same (hlt x (List.mem_append_left _ hx))) (fun x hx => hs x (List.mem_append_left _ hx))) ?_
    exact args_stay hl hb h2 hr.2 (fun x hx => hlt x (List.mem_append_right _ hx)) (fun x hx => hs x (List.mem_append_right _ hx))

/-- A law's end: one bool comes out, nothing that was there has turned. -/
theorem law_post {f : Func} {s : ChangeSpec} {W W' : World} {args : Array Value} {b : Bool} {ds : List (DataW H)} {ps : List MemPlace} {t : TypeId} (hvars : s.vars = []) (hl : laidOutB P = true)
    (hW : DataW.Whole enc P f.params.toList s.vars false W args.toList ds [] ps)
    (hA : DataW.TrodAll enc P W 0 (fun _ => true) true f.params.toList args.toList ds ps)
    (hr : (f.params.toList.all fun t => P.readableRec t && decide (t < P.types.size)) = true)
    (hres : f.resultTypes = #[t]) (ht : P.underlying t = some .bool)
    (hfn : s.fn H ds = { results := [.lit (.bool b)], args := ds }) (hb : Below W.heap.size W W') :
    s.post enc P f false true false false W args (.bool b) W' := by
  have hlt : ∀ p ∈ ps, p.block < W.heap.size := fun p hp => hW.lt p hp
  have hfn' : s.fn H (ds ++ []) = { results := [.lit (.bool b)], args := ds } := by rw [List.append_nil]; exact hfn
  have hstay : ∀ sp : Nat → Bool, (∀ p ∈ ps, sp p.block = true) → DataW.TrodAll enc P W' 0 sp true f.params.toList args.toList (s.fn H (ds ++ [])).args ps := fun sp hs => by
    rw [hfn']
    exact args_stay hl hb hA hr hlt hs
  have hone : (Value.bool b).resultList f.resultTypes.size = [.bool b] := by rw [hres]; rfl
  have hres' : ∀ (B : Nat) (sp : Nat → Bool) (hd : Bool), DataW.TrodAll enc P W' B sp hd f.resultTypes.toList ((Value.bool b).resultList f.resultTypes.size) (s.fn H (ds ++ [])).results [] := fun B sp hd => by
    rw [hfn', hone, hres]
    exact trodAll_mk1 (shut_bool ht _)
  have hv : ∀ sp : Nat → Bool, DataW.TrodVars enc P W' sp s.vars (s.fn H (ds ++ [])).vars [] := fun sp => by
    rw [hfn', hvars]
    rfl
  refine ⟨ds, [], ps, [], ps, [], hW, hres' _ _ _, hstay _ (fun p hp => by simpa using hlt p hp), hv _, World.keptBut_mono (fun p hp => ⟨hp, Or.inr (Or.inl hp)⟩) (hb.frame (· ∈ ps)), fun h => by cases h⟩

theorem args_of_list {args : Array Value} {l : List Value} (h : args.toList = l) : args = l.toArray := by rw [← h]
/-! ### arguments by value -/
/-- Cells that hold words. -/
def wordsV (ws : List Int) : List Value := ws.map (Value.int .u64)
theorem open_words {w : World} {base : Nat} {spare : Nat → Bool} {held : Bool} {n : Nat} {e : TypeId} {t : TypeId} {fuel : Nat} {cs : List Value} {x : DataW H × List MemPlace} (ht : P.underlying t = some (.array n e)) (he : P.underlying e = some (.int .u64)) (hce : P.cellsOf e = 1) (hct : P.cellsOf t = n)
    (h : DataW.trod enc P w base spare held fuel t cs = some x) : ∃ ws : List Int, cs = wordsV ws ∧ ws.length = n ∧ ∀ u ∈ ws, R.InU64 u := by
  obtain ⟨xs, m, _, _, hlen, hxl, hg⟩ := DataW.trod_array ht h
  rw [hct] at hlen
  have key : ∀ i (hi : i < cs.length), ∃ u : Int, cs[i] = .int .u64 u ∧ R.InU64 u := by
    intro i hi
    have h1 := hg i (by omega)
    rw [hce, Nat.mul_one, List.drop_eq_getElem_cons hi, List.take_succ_cons, List.take_zero, List.getElem?_eq_getElem (by omega)] at h1
    obtain ⟨u, e1, _, hw⟩ := DataW.trod_int he h1
    refine ⟨u, by simpa using e1, ?_⟩
    have := bounds_u64 hw
    unfold R.InU64
    omega
  refine ⟨cs.map fun v => match v with | .int _ n => n | _ => 0, ?_, by simpa using hlen, ?_⟩
  · refine List.ext_getElem (by simp [wordsV]) fun i h1 h2 => ?_
    obtain ⟨u, hu, _⟩ := key i h1
    simp [wordsV, hu]
  · intro u hu
    obtain ⟨v, hv, rfl⟩ := List.mem_map.1 hu
    obtain ⟨i, hi, rfl⟩ := List.getElem_of_mem hv
    obtain ⟨u, hu, hr⟩ := key i hi
    simpa [hu] using hr
end
end Go.Proofs.YtmoppmfbfpjdnaaGreat
