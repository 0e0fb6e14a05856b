/- Rows of structs: copies within and over them, rows made longer by zero values, appends in place, what lies behind a row made zero. slices.Clone, slices.Insert and slices.Delete at bans. -/
import Derived.Test.YtgciglnkofoacaaGreatVGo
import Derived.Lib.AppendZerosOnto
import Derived.Lib.Overlaps
import Derived.Laws.IdiomCopy
import Derived.ArgAppend
import Derived.Lib.OwnBridge
import Derived.Test.YtgciglnkofoacaaGreatCl
namespace Go.Proofs.YtgciglnkofoacaaGreat
open Go.RowKit
open R (In64 InU64 lo64 nth)
theorem tA {T : Type} {a b : List T} {k : Nat} (h : a.length = k) (j : Nat) : (a ++ b).take (k + j) = a ++ b.take j := by
  subst h
  rw [List.take_append, List.take_of_length_le (by omega), Nat.add_sub_cancel_left]
theorem dA {T : Type} {a b : List T} {k : Nat} (h : a.length = k) (j : Nat) : (a ++ b).drop (k + j) = b.drop j := by
  subst h
  rw [List.drop_append, List.drop_eq_nil_of_le (by omega), Nat.add_sub_cancel_left, List.nil_append]
/-- Cells laid one behind the other into a block. -/
theorem setCells_blk (b : Nat) (t : TypeId) : ∀ (vs : List Value) (o : Nat) (w : World) (cur : Array Value), w.heap[b]? = some (.cells cur t (0, 0)) → o + vs.length ≤ cur.size →
    ∃ cur', (w.setCells b o vs).heap[b]? = some (.cells cur' t (0, 0)) ∧ cur'.size = cur.size ∧ cur'.toList = cur.toList.take o ++ (vs ++ cur.toList.drop (o + vs.length)) ∧ w.grownBy (w.setCells b o vs) (some b)
  | [], o, w, cur, h, _ => ⟨cur, h, rfl, by simp, ⟨rfl, rfl, rfl, Nat.le_refl _, fun _ _ _ => rfl⟩⟩
  | v :: r, o, w, cur, h, hl => by
    have hl' : o + 1 + r.length ≤ cur.size := by simp at hl; omega
    obtain ⟨c2, h1, h2, h3, h4⟩ := setCells_blk b t r (o + 1) (w.setCell ⟨b, o, none⟩ v) (cur.setIfInBounds o v) (heap_setCell_same w b o cur t v h) (by rw [Array.size_setIfInBounds]; exact hl')
    refine ⟨c2, h1, by rw [h2, Array.size_setIfInBounds], ?_, ⟨h4.os, h4.tape, h4.output, ?_, ?_⟩⟩
    · rw [h3, Array.toList_setIfInBounds, List.set_eq_take_append_cons_drop, if_pos (by rw [Array.length_toList]; omega)]
      have e0 : (cur.toList.take o).length = o := by rw [List.length_take, Array.length_toList]; omega
      rw [tA e0, show o + 1 + r.length = o + (1 + r.length) by omega, dA e0, show 1 + r.length = r.length + 1 by omega]
      simp only [List.take_succ_cons, List.take_zero, List.drop_succ_cons, List.drop_drop, List.length_cons, List.append_assoc, List.cons_append, List.nil_append]
      rw [show o + 1 + r.length = o + (r.length + 1) by omega]
    · exact Nat.le_trans (by simp) h4.size
    · intro k hk hne
      rw [show (w.setCells b o (v :: r)).heap[k]? = ((w.setCell ⟨b, o, none⟩ v).setCells b (o + 1) r).heap[k]? from rfl, h4.block k (by simpa using hk) hne]
      exact heap_setCell_other w ⟨b, o, none⟩ k v (fun e => hne (by rw [e]))
theorem row_form5 {w : World} {A : Option Addr} {n c sz : Nat} {e : TypeId} {cs : List Value} (h : w.ownsRow 0 e sz (.slice A n c) n cs) (hn : 0 < n) : ∃ g cur, A = some ⟨g, 0, none⟩ ∧ w.heap[g]? = some (.cells cur e (0, 0)) ∧ n ≤ c ∧ c ≤ maxLen ∧ cur.size = c * sz ∧ cur.toList.take (n * sz) = cs := by
  rcases h.2 with ⟨hv, h0⟩ | ⟨g, cap, cur, hv, _, h1, h2, h3, h4, h5⟩
  · omega
  · injection hv with a1 a2 a3
    subst a3
    exact ⟨g, cur, a1, h1, h2, h3, h4, h5⟩
theorem blk_cell {w : World} {g : Nat} {e : TypeId} {cur : Array Value} {cs : List Value} {n : Nat} (h : w.heap[g]? = some (.cells cur e (0, 0))) (hc : cur.toList.take n = cs) : ∀ j v, cs[j]? = some v → w.cell? ⟨g, 0 + j, none⟩ = some v := fun j v hj => by
  rw [← hc, List.getElem?_take] at hj
  split at hj
  · simp only [World.cell?, h, Nat.zero_add]
    simpa using hj
  · cases hj
theorem own_cut {F : List Nat} {W0 w : World} {l : List R.Res} {a : Addr} {n c k sz : Nat} {e : TypeId} {cs : List Value} (hM : R.Own F W0 w (.row (some a) n c e sz cs :: l)) (hk : k ≤ n) : R.Own F W0 w (.row (some a) k c e sz (cs.take (k * sz)) :: l) := by
  refine hM.upd .head ⟨rfl, rfl, rfl, Nat.le_refl _, fun _ _ _ => rfl⟩ ?_ (.inl rfl)
  have hr : w.ownsRow 0 e sz (.slice (some a) n c) n cs := hM.ok _ (.head _)
  rcases hr.2 with ⟨hv, _⟩ | ⟨g', cap, cur, hv, h1, h2, h3, h4, h5, h6⟩
  · cases hv
  · injection hv with a1 a2 a3
    injection a1 with a1
    subst a1 a3
    refine ⟨?_, .inr ⟨g', c, cur, rfl, Nat.zero_le _, h2, by omega, h4, h5, ?_⟩⟩
    · rw [List.length_take, hr.1]
      exact Nat.min_eq_left (Nat.mul_le_mul_right _ hk)
    · rw [← h6, List.take_take, Nat.min_eq_left (Nat.mul_le_mul_right _ hk)]
theorem cap_ofR {F : List Nat} {W w : World} {l : List R.Res} {A : Option Addr} {n c sz : Nat} {e : TypeId} {cs : List Value} (hM : R.Own F W w l) (hm : .row A n c e sz cs ∈ l) : n ≤ c ∧ c ≤ 9223372036854775807 := by
  have hr : w.ownsRow 0 e sz (.slice A n c) n cs := hM.ok _ hm
  rcases hr.2 with ⟨hv, h0⟩ | ⟨g, cap, cur, hv, _, _, h3, h4, _⟩
  · injection hv with _ _ a3
    omega
  · injection hv with _ _ a3
    unfold maxLen at *
    omega
namespace R
section
variable {sz : Nat}
theorem flat_takeN {T : Type} {enc : T → List Value} (h : ∀ x, (enc x).length = sz) : ∀ (L : List T) (i : Nat), (L.flatMap enc).take (i * sz) = (L.take i).flatMap enc
  | [], i => by simp
  | x :: L, 0 => by simp
  | x :: L, i + 1 => by
    rw [List.take_succ_cons, List.flatMap_cons, List.flatMap_cons, Nat.succ_mul, Nat.add_comm, tA (h x), flat_takeN h L i]
theorem flat_dropN {T : Type} {enc : T → List Value} (h : ∀ x, (enc x).length = sz) : ∀ (L : List T) (i : Nat), (L.flatMap enc).drop (i * sz) = (L.drop i).flatMap enc
  | [], i => by simp
  | x :: L, 0 => by simp
  | x :: L, i + 1 => by
    rw [List.drop_succ_cons, List.flatMap_cons, Nat.succ_mul, Nat.add_comm, dA (h x), flat_dropN h L i]
end
end R
namespace R
section
variable {P : Program} {C : CallH} {o : Oper} {f : Fr} {w : World} {K : Value → World → Prop} {t t' e : TypeId} {x y : Operand} {n c c1 m mc d dc sz lo k cc : Nat} {A B : Option Addr} {F : List Nat} {W : World} {l l' : List Res} {cs ms ss : List Value}
theorem run_copyS (w : World) (dT sT ty elem : TypeId) (b ob dLen dCap : Nat) (a : Addr) (sLen sCap : Nat) (cs : List Value) (hu : P.underlying dT = some (.slice elem)) (hs : szT P elem = some sz) (hn : cs.length = Nat.min sLen dLen * sz)
    (hsrc : ∀ j v, cs[j]? = some v → w.cell? (a.add j) = some v) (hdst : ∀ j, j < cs.length → (w.cell? ⟨b, ob + j, none⟩).isSome = true) (hfz : ∀ j, j < cs.length → w.frozen? ⟨b, ob + j, none⟩ = false) (h1 : ∀ v ∈ cs, v.oneCell' = true) :
    (Builtin.copy_ #[dT, sT] ty #[.slice (some ⟨b, ob, none⟩) dLen dCap, .slice (some a) sLen sCap]).run P w = .ok (goInt (Nat.min sLen dLen)) (w.setCells b ob cs) := by
  have hl := run_loadCells_list (P := P) w a cs hsrc
  have hst := run_storeCells_cells (P := P) b ob cs 0 w (by simpa using hdst) (by simpa using hfz) h1
  unfold szT at hs
  cases hq : P.info? elem with
  | none => simp [hq] at hs
  | some i =>
    have hi : i.size = sz := by simpa [hq] using hs
    rw [hn] at hl
    simp [Builtin.copy_, run_underlying hu, Builtin.lenOf, Builtin.firstCells, sizeOf, typeInfo, hq, hi, hl]
    simpa using congrArg (fun r => r.andThen fun _ w' => (Result.ok (goInt (Nat.min sLen dLen)) w' : Result Value)) hst
/-- A row with room takes one more element, whatever lies there. -/
theorem own_ext {a : Addr} (hM : Own F W w (.row (some a) n c e sz cs :: l)) (hnc : n < c) : ∃ ex : List Value, ex.length = sz ∧ Own F W w (.row (some a) (n + 1) c e sz (cs ++ ex) :: l) := by
  have hr : w.ownsRow 0 e sz (.slice (some a) n c) n cs := hM.ok _ (.head _)
  rcases hr.2 with ⟨hv, _⟩ | ⟨g', cap, cur, hv, h1, h2, h3, h4, h5, h6⟩
  · cases hv
  · injection hv with a1 a2 a3
    injection a1 with a1
    subst a1 a3
    have hsz : (n + 1) * sz ≤ cur.toList.length := by
      rw [Array.length_toList, h5]
      exact Nat.mul_le_mul_right _ hnc
    have e1 : (n + 1) * sz = n * sz + sz := Nat.succ_mul n sz
    refine ⟨(cur.toList.drop (n * sz)).take sz, by rw [List.length_take, List.length_drop]; omega, hM.upd .head ⟨rfl, rfl, rfl, Nat.le_refl _, fun _ _ _ => rfl⟩ ⟨?_, .inr ⟨g', c, cur, rfl, Nat.zero_le _, h2, by omega, h4, h5, ?_⟩⟩ (.inl rfl)⟩
    · rw [List.length_append, hr.1, List.length_take, List.length_drop]
      omega
    · rw [e1, ← h6]
      rw [List.take_add]
/-- copy(s[lo:], src) into a row of the call's own. -/
theorem WO_copyR (hop : o.op = .call { callee := .builtin .copy, args := #[x, y], argTypes := #[t, t'] }) [hS : SliceT P t e sz] (hx : ev f x = .slice (cutA A cc lo sz) d dc) (hy : ev f y = .slice B m mc) (hM : Own F W w l)
    (hu : Upd l (.row A n c e sz cs) (.row A n c e sz (cs.take (lo * sz) ++ (ss ++ cs.drop (lo * sz + k * sz)))) l') (hcc : cc ≠ lo) (hk0 : 0 < k) (hkd : Nat.min m d = k) (hlk : lo + k ≤ n) (hs0 : 0 < sz) (hr : Rd w B m sz ms) (hss : ms.take (k * sz) = ss) (h1 : ∀ v ∈ ss, v.oneCell' = true)
    (hk : ∀ w', Own F W w' l' → K (.int .i64 (k : Nat)) w') : WO P C o f w K := by
  have hrow : w.ownsRow 0 e sz (.slice A n c) n cs := hM.ok _ hu.old
  obtain ⟨g, cur, rfl, hg, hnc, hcm, hcs, hct⟩ := row_form5 hrow (by omega)
  have hm0 : 0 < m := by
    rcases Nat.eq_zero_or_pos m with h | h
    · subst h; rw [show Nat.min 0 d = 0 from Nat.zero_min _] at hkd; omega
    · exact h
  obtain ⟨a, rfl⟩ := hr.some_ hm0 hs0
  have hkm : k ≤ m := by rw [← hkd]; exact Nat.min_le_left _ _
  have hl : ss.length = k * sz := by
    rw [← hss, List.length_take, hr.1]
    exact Nat.min_eq_left (Nat.mul_le_mul_right _ hkm)
  have hfit : lo * sz + k * sz ≤ n * sz := by rw [← Nat.add_mul]; exact Nat.mul_le_mul_right _ hlk
  have hcz : n * sz ≤ cur.size := by rw [hcs]; exact Nat.mul_le_mul_right _ hnc
  have hx2 : ev f x = .slice (some ⟨g, lo * sz, none⟩) d dc := by
    rw [hx]
    unfold cutA
    rw [if_neg hcc]
    simp [Addr.add_lit]
  have hc := run_copyS (P := P) w t t' o.type e g (lo * sz) d dc a m mc ss hS.h hS.s (by rw [hkd, hl])
    (fun j v hj => by
      rw [← hss, List.getElem?_take] at hj
      split at hj
      · obtain ⟨a', ha, hv⟩ := hr.2 j v hj
        cases ha
        exact hv
      · cases hj)
    (fun j hj => by simp only [World.cell?, hg]; rw [Array.getElem?_eq_getElem (by omega)]; rfl) (fun j hj => by simp [World.frozen?, hg]) h1
  obtain ⟨c2, b1, b2, b3, b4⟩ := setCells_blk g e ss (lo * sz) w cur hg (by omega)
  have hcl : cs.length = n * sz := hrow.1
  refine WO_eff (v := .int .i64 (k : Nat)) (w' := w.setCells g (lo * sz) ss) ?_ (hk _ (hM.upd hu b4 ⟨by rw [List.length_append, List.length_append, List.length_take, List.length_drop]; omega, .inr ⟨g, c, c2, rfl, Nat.zero_le _, b1, hnc, hcm, by rw [b2, hcs], ?_⟩⟩ (.inl rfl)))
  · simp only [execOp, hop, resolve, invoke, builtin, Sem.run_bind, Sem.run_pure, Result.andThen_ok, List.map_toArray, List.map_cons, List.map_nil, hx2, hy, hc, hkd]
    rfl
  · rw [b3, ← hct]
    have e1 : (cur.toList.take (lo * sz)).length = lo * sz := by rw [List.length_take, Array.length_toList]; omega
    rw [show n * sz = lo * sz + (n * sz - lo * sz) by omega, tA e1, show n * sz - lo * sz = k * sz + (n * sz - lo * sz - k * sz) by omega, tA hl, List.take_take, List.drop_take, hl, show min (lo * sz) (lo * sz + (k * sz + (n * sz - lo * sz - k * sz))) = lo * sz by omega,
      show lo * sz + (k * sz + (n * sz - lo * sz - k * sz)) - (lo * sz + k * sz) = n * sz - lo * sz - k * sz by omega]
theorem zeroCells_size (z : Array Value) (n : Nat) : (Builtin.zeroCells z n).size = n * z.size := by simp [Builtin.zeroCells]
/-- append(s[:i], make(S, k)...) where there is no room: a new row; behind the first i elements lie zero values. -/
theorem WO_appMk {i bytes : Nat} {z : Value} {q : Int} (hop : o.op = .call { callee := .builtin .append, args := #[x, y], argTypes := #[t, t'] }) [hS : SliceT P t e sz] [EL : ElemT P e z sz bytes] (ht' : P.underlying t' = some (.int .i64)) (hx : ev f x = .slice A i c) (hy : ev f y = .int .i64 q) (hq : q = (k : Nat))
    (hM : Own F W w l) (hm : .row A n c e sz cs ∈ l) (hn0 : 0 < n) (hin : i ≤ n) (hg : c < i + k) (hk0 : 0 < k) (h63 : i + k ≤ 1000000000) (hby : (i + k) * bytes ≤ 140737488355328)
    (hk : ∀ A1 c1 zs w', zs.length = k * sz → Own F W w' (.row A1 (i + k) c1 e sz (cs.take (i * sz) ++ zs) :: l) → K (.slice A1 (i + k) c1) w') : WO P C o f w K := by
  subst hq
  have hrow : w.ownsRow 0 e sz (.slice A n c) n cs := hM.ok _ hm
  obtain ⟨g, cur, rfl, hgb, hnc, hcm, hcs, hct⟩ := row_form5 hrow hn0
  obtain ⟨i0, hi0, hz0, hz1, hz2⟩ := info_parts EL.h
  have hcl : cs.length = n * sz := hrow.1
  have hol : (cs.take (i * sz)).length = i * sz := by
    rw [List.length_take, hcl]
    exact Nat.min_eq_left (Nat.mul_le_mul_right _ hin)
  have hold : (Builtin.firstCells i0.size i (.slice (some ⟨g, 0, none⟩) i c)).run P w.drew = .ok (cs.take (i * sz)).toArray w.drew := by
    have := run_loadCells_list (P := P) w.drew ⟨g, 0, none⟩ (cs.take (i * sz)) (fun j v hj => by
      rw [List.getElem?_take] at hj
      split at hj
      · have := blk_cell (w := w) hgb hct j v hj
        rw [Addr.add_lit]
        exact this
      · cases hj)
    rw [hol] at this
    rw [hz1]
    exact this
  have hb48 : k * i0.bytes ≤ 281474976710656 := by
    rw [hz2]
    have : k * bytes ≤ (i + k) * bytes := Nat.mul_le_mul_right _ (Nat.le_add_left _ _)
    omega
  have hrun := Lib.run_append_grow_zeros w t t' o.type e i0 z .i64 .i64 hS.h ht' hi0 hz0 (some ⟨g, 0, none⟩) i c (cs.take (i * sz)) hold k hk0 (by rw [hz1]; exact EL.p) hg (by omega) hb48 (by rw [hz2]; exact growslice_fits hg hby)
  have hge := grownCap_ge w (i + k) c e
  have hle := grownCap_le_maxLen w (i + k) c e (by unfold maxLen; omega)
  obtain ⟨G, hG⟩ : ∃ G, grownCap w (i + k) c e = G := ⟨_, rfl⟩
  rw [hG] at hrun hge hle
  refine WO_eff (v := .slice (some ⟨w.heap.size, 0, none⟩) (i + k) G) (w' := w.drew.alloc (.cells ((cs.take (i * sz)).toArray ++ Builtin.zeroCells z.cells k ++ Builtin.zeroCells z.cells (G - (i + k))) e)) ?_ (hk (some ⟨w.heap.size, 0, none⟩) G (Builtin.zeroCells z.cells k).toList _ (by rw [Array.length_toList, zeroCells_size, EL.c]) ?_)
  · simp [execOp, hop, resolve, invoke, builtin, hx, hy, hrun, Result.andThen]
  · have hsz : ((cs.take (i * sz)).toArray ++ Builtin.zeroCells z.cells k ++ Builtin.zeroCells z.cells (G - (i + k))).size = G * sz := by
      rw [Array.size_append, Array.size_append, zeroCells_size, zeroCells_size, EL.c, List.size_toArray, hol, ← Nat.add_mul, ← Nat.add_mul]
      congr 1
      omega
    have h1 := own_of_alloc (w := w.drew) ((cs.take (i * sz)).toArray ++ Builtin.zeroCells z.cells k ++ Builtin.zeroCells z.cells (G - (i + k))) e sz G 0 (Nat.zero_le _) hle hsz
    have hMd : Own F W w.drew l := hM.drew
    have h2 : Own F W _ (.row (some ⟨w.heap.size, 0, none⟩) G G e sz ((cs.take (i * sz)).toArray ++ Builtin.zeroCells z.cells k ++ Builtin.zeroCells z.cells (G - (i + k))).toList :: l) := hMd.add (World.grownBy_alloc w.drew _ none) h1 (fun k e => by cases e; exact Nat.le_refl _)
    have h3 := own_cut (k := i + k) h2 hge
    have e1 : (((cs.take (i * sz)).toArray ++ Builtin.zeroCells z.cells k ++ Builtin.zeroCells z.cells (G - (i + k))).toList.take ((i + k) * sz)) = cs.take (i * sz) ++ (Builtin.zeroCells z.cells k).toList := by
      rw [Array.toList_append, Array.toList_append]
      have hl2 : (cs.take (i * sz) ++ (Builtin.zeroCells z.cells k).toList).length = (i + k) * sz := by
        rw [List.length_append, hol, Array.length_toList, zeroCells_size, EL.c, ← Nat.add_mul]
      have := tA (b := (Builtin.zeroCells z.cells (G - (i + k))).toList) hl2 0
      rwa [Nat.add_zero, List.take_zero, List.append_nil] at this
    rw [e1] at h3
    exact h3
/-- What slices.Insert asks of what it lays in, and of its row: they do not overlap. -/
theorem run_overlaps_own {n2 d2 : Nat} {cs2 : List Value} {tS tR : TypeId} (hM : Own F W w (.row B m mc e sz ms :: .row A n2 d2 e sz cs2 :: l)) (hm : 0 < m) (hn : 0 < n2) (hu : P.underlying tS = some (.slice e)) (hz : szT P e = some sz) (hz0 : 0 < sz) (lb cb : Nat) :
    (Extern.SlicesOverlaps.overlaps #[tS, tS] #[tR] #[.slice B m mc, .slice (cutA A cc lo sz) lb cb]).run P w = .ok (.bool false) w := by
  obtain ⟨g2, cur2, rfl, hg2, hd1, hd2, hcs2, hct2⟩ := row_form5 (hM.ok _ (.head _) : w.ownsRow 0 e sz (.slice B m mc) m ms) hm
  obtain ⟨g, cur, rfl, hg, hnc, hcm, hcs, hct⟩ := row_form5 (hM.ok _ (.tail _ (.head _)) : w.ownsRow 0 e sz (.slice A n2 d2) n2 cs2) hn
  have hne : g2 ≠ g := fun e => by
    have := hM.nodup
    simp [R.Res.key, R.blockOf, e] at this
  have hA : ∃ q, cutA (some ⟨g, 0, none⟩) cc lo sz = some ⟨g, q, none⟩ := by
    unfold cutA
    split
    · exact ⟨0, rfl⟩
    · exact ⟨0 + lo * sz, by simp [Addr.add_lit]⟩
  obtain ⟨q, hq⟩ := hA
  rw [hq]
  have hp : 0 < cur.size := by
    rw [hcs]
    exact Nat.mul_pos (by omega) hz0
  exact Lib.run_overlaps_apart w tS tR e hu sz (fun w => run_sz hz w) ⟨g2, 0, none⟩ ⟨g, q, none⟩ m mc lb cb hne e e cur2.size cur.size (by simp only [World.shape?, hg2]) (by simp only [World.shape?, hg]) (by omega) (by simp [World.frozen?, hg2]) (by simp [World.frozen?, hg2])
end
end R
namespace R
section
variable {P : Program} {C : CallH} {o : Oper} {f : Fr} {w : World} {K : Value → World → Prop} {t t' e : TypeId} {x y : Operand} {n c c1 m mc d dc sz lo k cc i bytes : Nat} {z : Value} {A B : Option Addr} {F : List Nat} {W : World} {l l' : List Res} {cs ms ss : List Value}
/-- append(s[:i], ..) where there is room. -/
theorem WO_appIn (hop : o.op = .call { callee := .builtin .append, args := #[x, y], argTypes := #[t, t] }) [hS : SliceT P t e sz] [EL : ElemT P e z sz bytes] (hx : ev f x = .slice A i c) (hy : ev f y = .slice B m mc) (hM : Own F W w (.row A n c e sz cs :: l)) (hn0 : 0 < n) (hin : i ≤ n) (hroom : i + m ≤ c) (hB : ∃ b, B = some b) (hr : Rd w B m sz ms) (h1 : ∀ v ∈ ms, v.oneCell' = true)
    (hk : ∀ w', Own F W w' (.row A (i + m) c e sz (cs.take (i * sz) ++ ms) :: l) → K (.slice A (i + m) c) w') : WO P C o f w K := by
  have hrow : w.ownsRow 0 e sz (.slice A n c) n cs := hM.ok _ (.head _)
  obtain ⟨g, cur, rfl, hgb, hnc, hcm, hcs, hct⟩ := row_form5 hrow hn0
  obtain ⟨i0, hi0, hz0, hz1, hz2⟩ := info_parts EL.h
  obtain ⟨b, rfl⟩ := hB
  have hcl : cs.length = n * sz := hrow.1
  have hml : ms.length = m * sz := hr.1
  have hfit : i * sz + m * sz ≤ cur.size := by
    rw [hcs, ← Nat.add_mul]
    exact Nat.mul_le_mul_right _ hroom
  have hrun := run_append_room_cells (P := P) (w := w) t o.type e i0 hS.h hi0 g 0 i c b m mc ms (by rw [hz1]; exact hml) (fun j u hj => by
      obtain ⟨a', ha, hv⟩ := hr.2 j u hj
      cases ha
      exact hv) h1 hroom
    (fun j hj => by rw [hz1]; simp only [World.cell?, hgb]; rw [Array.getElem?_eq_getElem (by omega)]; rfl) (fun j hj => by simp [World.frozen?, hgb])
  rw [hz1, Nat.zero_add] at hrun
  obtain ⟨c2, b1, b2, b3, b4⟩ := setCells_blk g e ms (i * sz) w cur hgb (by omega)
  refine WO_eff (v := .slice (some ⟨g, 0, none⟩) (i + m) c) (w' := w.setCells g (i * sz) ms) ?_ (hk _ (hM.upd .head b4 ⟨by rw [List.length_append, List.length_take, hml, Nat.min_eq_left (by rw [hcl]; exact Nat.mul_le_mul_right _ hin), Nat.add_mul], .inr ⟨g, c, c2, rfl, Nat.zero_le _, b1, hroom, hcm, by rw [b2, hcs], ?_⟩⟩ (.inl rfl)))
  · simp [execOp, hop, resolve, invoke, builtin, hx, hy, hrun, Result.andThen]
  · have e1 : (cur.toList.take (i * sz)).length = i * sz := by rw [List.length_take, Array.length_toList]; omega
    have hle : i * sz ≤ n * sz := Nat.mul_le_mul_right _ hin
    have := tA (b := cur.toList.drop (i * sz + ms.length)) hml 0
    rw [Nat.add_zero, List.take_zero, List.append_nil] at this
    rw [b3, Nat.add_mul, tA e1, this, ← hct, List.take_take, Nat.min_eq_left hle]
/-- clear(s[lo:hi]), all of it behind the row. -/
theorem WO_clearR {g : Nat} (hop : o.op = .call { callee := .builtin .clear, args := #[x], argTypes := #[t] }) [hS : SliceT P t e sz] [hZ : ZeroT P e z] (hzs : z.cells.size = sz) (hz1 : ∀ v ∈ z.cells.toList, v.oneCell' = true) (hs0 : 0 < sz) (hx : ev f x = .slice (cutA (some ⟨g, 0, none⟩) cc lo sz) k dc) (hM : Own F W w (.row (some ⟨g, 0, none⟩) n c e sz cs :: l)) (hcc : cc ≠ lo) (hk0 : 0 < k) (hnl : n ≤ lo) (hlk : lo + k ≤ c)
    (hk : ∀ w', Own F W w' (.row (some ⟨g, 0, none⟩) n c e sz cs :: l) → K (.tuple #[]) w') : WO P C o f w K := by
  have hrow : w.ownsRow 0 e sz (.slice (some ⟨g, 0, none⟩) n c) n cs := hM.ok _ (.head _)
  rcases hrow.2 with ⟨hv, _⟩ | ⟨g', cap, cur, hv, _, hgb, hnc, hcm, hcs, hct⟩
  · cases hv
  injection hv with a1 a2 a3
  injection a1 with a1
  injection a1 with a1
  subst a1 a3
  have hx2 : ev f x = .slice (some ⟨g, lo * sz, none⟩) k dc := by
    rw [hx]
    unfold cutA
    rw [if_neg hcc]
    simp [Addr.add_lit]
  have hfit : lo * sz + k * sz ≤ cur.size := by
    rw [hcs, ← Nat.add_mul]
    exact Nat.mul_le_mul_right _ hlk
  obtain ⟨zs, hzs2⟩ : ∃ zs, (Builtin.zeroCells z.cells k).toList = zs := ⟨_, rfl⟩
  have hzl : zs.length = k * sz := by rw [← hzs2, Array.length_toList, zeroCells_size, hzs]
  have hzo : ∀ v ∈ zs, v.oneCell' = true := fun v hv => by
    rw [← hzs2] at hv
    unfold Builtin.zeroCells at hv
    rw [Array.toList_map] at hv
    obtain ⟨q, _, rfl⟩ := List.mem_map.1 hv
    have hq : q % z.cells.size < z.cells.size := Nat.mod_lt _ (by omega)
    rw [getElem!_pos z.cells _ hq]
    exact hz1 _ (Array.getElem_mem_toList hq)
  have hst := run_storeCells_cells (P := P) g (lo * sz) zs 0 w (fun j hj => by simp only [World.cell?, hgb, Nat.add_zero]; rw [Array.getElem?_eq_getElem (by omega)]; rfl) (fun j hj => by simp [World.frozen?, hgb]) hzo
  obtain ⟨c2, b1, b2, b3, b4⟩ := setCells_blk g e zs (lo * sz) w cur hgb (by omega)
  have hle : n * sz ≤ lo * sz := Nat.mul_le_mul_right _ hnl
  obtain ⟨k, rfl⟩ : ∃ k', k = k' + 1 := ⟨k - 1, by omega⟩
  refine WO_eff (v := .tuple #[]) (w' := w.setCells g (lo * sz) zs) ?_ (hk _ (hM.upd .head b4 ⟨hrow.1, .inr ⟨g, c, c2, rfl, Nat.zero_le _, b1, hnc, hcm, by rw [b2, hcs], ?_⟩⟩ (.inl rfl)))
  · simp only [Nat.add_zero] at hst
    simp [execOp, hop, resolve, invoke, builtin, hx2, Builtin.clear_, run_underlying hS.h, hZ.h, hzs2, hst, Result.andThen]
  · have e1 : (cur.toList.take (lo * sz)).length = lo * sz := by rw [List.length_take, Array.length_toList]; omega
    rw [b3, List.take_append_of_le_length (by omega), List.take_take, Nat.min_eq_left hle, hct]
end
end R
theorem WO_slcLH {P : Program} {C : R.CallH} {o : Oper} {f : R.Fr} {w : World} {K : Value → World → Prop} {t e : TypeId} {x i1 i2 : Operand} {A : Option Addr} {n c sz : Nat} {k k2 : IntKind} {lo hi : Int} {jl jh : Nat} (hop : o.op = .slice t x (some i1) (some i2) none) [ht : R.SliceT P t e sz] (hx : R.ev f x = .slice A n c) (h1 : R.ev f i1 = .int k lo) (h2 : R.ev f i2 = .int k2 hi) (h0 : 0 ≤ lo) (hl : lo ≤ hi) (hc : hi ≤ c) [hj : R.ToN lo jl] [hj2 : R.ToN hi jh]
    (hk : K (.slice (R.cutA A c jl sz) (jh - jl) (c - jl)) w) : R.WO P C o f w K := by
  have hr := run_slice_lh (P := P) w t A n c (by rw [R.elemT ht.h]; exact ht.h) k k2 lo hi h0 hl hc
  rw [R.elemT ht.h, R.run_sz ht.s] at hr
  have e2 := hj.h
  have e3 := hj2.h
  subst e2 e3
  refine R.WO_val ?_ hk
  simp [execOp, hop, hx, h1, h2, Instr.sliceAt, run_underlying ht.h, hr, Result.andThen, sliced, R.cutA]
end Go.Proofs.YtgciglnkofoacaaGreat
namespace Go.Proofs.YtgciglnkofoacaaGreat
open Go.RowKit
open R (In64 InU64 lo64 nth)
theorem insertB_end {F : List Nat} {W w : World} {l : List R.Res} {A B : Option Addr} {n c d : Nat} {M : List Bn} {y : Bn} (hb : n ≤ 1000000) (hM : R.Own F W w (.row B 1 d 50 3 (cBn y) :: .row A n c 50 3 (M.flatMap cBn) :: l)) :
    Calls Tryz.prog 52 #[.slice A n c, .int .i64 (n : Nat), .slice B 1 d] w fun e w' => ∃ A1 c1, e = .returned (.slice A1 (n + 1) c1) ∧ R.Own F W w' (.row A1 (n + 1) c1 50 3 ((M ++ [y]).flatMap cBn) :: l) := by
  have hcap := cap_ofR hM (.tail _ (.head _))
  refine R.calls_of_WC (fn := Tryz.f52) Tryz.func52 rfl Tryz.ntmps52 (Nat.le_of_ble_eq_true rfl) ?_
  (refine R.stepV ?_; (repeat' (first | (with_reducible refine And.intro ?_ ?_) | (with_reducible intro _))); all_goals refine R.Lft.mk ?_)
  exact ⟨_, _, rfl, R.ohm⟩
theorem overlaps_ban {F : List Nat} {W w : World} {l : List R.Res} {A B : Option Addr} {n d m mc lo cc : Nat} {cs ms : List Value} (hM : R.Own F W w (.row B m mc 50 3 ms :: .row A n d 50 3 cs :: l)) (hm : 0 < m) (hn : 0 < n) (lb cb : Nat) :
    (callFunc 73 #[.slice B m mc, .slice (R.cutA A cc lo 3) lb cb]).run Tryz.prog w = .ok (.value (.bool false)) w := by
  rw [run_callFunc_extern Tryz.func73 (by kernel_rfl) (by kernel_rfl) (by kernel_rfl) (e := Extern.SlicesOverlaps.overlaps #[27, 27] #[4]) (by kernel_rfl),
    R.run_overlaps_own hM hm hn (by kernel_rfl) (by kernel_rfl) (by decide)]
  rfl
theorem flat_takeB (M : List Bn) (i : Nat) : (M.flatMap cBn).take (i * 3) = (M.take i).flatMap cBn := R.flat_takeN encc_Bn.len M i
theorem flat_dropB (M : List Bn) (i : Nat) : (M.flatMap cBn).drop (i * 3) = (M.drop i).flatMap cBn := R.flat_dropN encc_Bn.len M i
theorem flat_lenB (M : List Bn) : (M.flatMap cBn).length = M.length * 3 := R.flat_len encc_Bn.len M
theorem one_flatB (M : List Bn) : ∀ v ∈ M.flatMap cBn, v.oneCell' = true := fun v hv => by
  obtain ⟨x, _, hx⟩ := List.mem_flatMap.1 hv
  exact encc_Bn.one x v hx
theorem ins_grow {cs zs ys : List Value} {a r : Nat} (hc : cs.length = a + r) (hz : zs.length = 3 + r) (hy : ys.length = 3) :
    (((cs.take a ++ zs).take a ++ (ys ++ (cs.take a ++ zs).drop (a + 3))).take (a + 3) ++ (cs.drop a ++ ((cs.take a ++ zs).take a ++ (ys ++ (cs.take a ++ zs).drop (a + 3))).drop (a + 3 + r))) = cs.take a ++ (ys ++ cs.drop a) := by
  have h1 : (cs.take a).length = a := by rw [List.length_take]; omega
  have e1 : (cs.take a ++ zs).take a = cs.take a := by
    have := tA (b := zs) h1 0
    rwa [Nat.add_zero, List.take_zero, List.append_nil] at this
  rw [e1, dA h1 3, tA h1 3, show a + 3 + r = a + (3 + r) by omega, dA h1 (3 + r), dA hy r]
  have e2 : (ys ++ zs.drop 3).take 3 = ys := by
    have := tA (b := zs.drop 3) hy 0
    rwa [Nat.add_zero, List.take_zero, List.append_nil] at this
  have e3 : (zs.drop 3).drop r = [] := by
    apply List.eq_nil_of_length_eq_zero
    rw [List.length_drop, List.length_drop]
    omega
  rw [e2, e3, List.append_nil, List.append_assoc]
theorem ins_room {cs ex ys : List Value} {a r : Nat} (hc : cs.length = a + r) (hx : ex.length = 3) :
    (((cs ++ ex).take (a + 3) ++ (cs.drop a ++ (cs ++ ex).drop (a + 3 + r))).take a ++ (ys ++ ((cs ++ ex).take (a + 3) ++ (cs.drop a ++ (cs ++ ex).drop (a + 3 + r))).drop (a + 3))) = cs.take a ++ (ys ++ cs.drop a) := by
  have hl : (cs ++ ex).length = a + r + 3 := by rw [List.length_append]; omega
  have e1 : (cs ++ ex).drop (a + 3 + r) = [] := by
    apply List.eq_nil_of_length_eq_zero
    rw [List.length_drop]
    omega
  have h2 : ((cs ++ ex).take (a + 3)).length = a + 3 := by rw [List.length_take]; omega
  have e2 := dA (b := cs.drop a ++ []) h2 0
  rw [Nat.add_zero, List.drop_zero] at e2
  rw [e1, e2, List.append_nil, List.take_append_of_le_length (by omega), List.take_take, Nat.min_eq_left (by omega), List.take_append_of_le_length (by omega)]
set_option maxHeartbeats 2000000 in
theorem insertB_any {F : List Nat} {W w : World} {l : List R.Res} {A B : Option Addr} {n c d i : Nat} {M : List Bn} {y : Bn} (hb : n ≤ 1000000) (hn : n = M.length) (hi : i ≤ n) (hM : R.Own F W w (.row B 1 d 50 3 (cBn y) :: .row A n c 50 3 (M.flatMap cBn) :: l)) :
    Calls Tryz.prog 52 #[.slice A n c, .int .i64 (i : Nat), .slice B 1 d] w fun e w' => ∃ A1 c1, e = .returned (.slice A1 (n + 1) c1) ∧ R.Own F W w' (.row A1 (n + 1) c1 50 3 ((M.take i ++ y :: M.drop i).flatMap cBn) :: l) := by
  rcases Nat.eq_or_lt_of_le hi with h | h
  · subst h
    have := insertB_end hb hM
    rwa [hn, List.take_length, List.drop_length, ← hn]
  have hcap := cap_ofR hM (.tail _ (.head _))
  have hcs := flat_lenB M
  by_cases hroom : n + 1 ≤ c
  · refine R.calls_of_WC (fn := Tryz.f52) Tryz.func52 rfl Tryz.ntmps52 (Nat.le_of_ble_eq_true rfl) ?_
    (refine R.stepV ?_; (repeat' (first | (with_reducible refine And.intro ?_ ?_) | (with_reducible intro _))); all_goals refine R.Lft.mk ?_)
    refine R.WO_extern2 rfl rfl R.vv R.vv (overlaps_ban hM (by omega) (by omega) _ _) ?_
    (refine R.stepV ?_; (repeat' (first | (with_reducible refine And.intro ?_ ?_) | (with_reducible intro _))); all_goals refine R.Lft.mk ?_)
    rename_i w2 hM
    obtain ⟨g, cur, rfl, hgb, _⟩ := row_form5 (hM.ok _ (.tail _ (.head _)) : w2.ownsRow 0 50 3 (.slice A n c) n (M.flatMap cBn)) (by omega)
    obtain ⟨ex, hex, hM⟩ := R.own_ext (R.Own.swap hM) (by omega)
    have hex4 : (M.flatMap cBn ++ ex).length = (n + 1) * 3 := by rw [List.length_append, hcs, hex]; omega
    refine R.WO_copyR (k := n - i) (lo := i + 1) (ss := (M.flatMap cBn).drop (i * 3)) rfl rfl rfl hM R.Upd.head (by omega) (by omega) (by show min _ _ = _; omega) (by omega) (by omega) ((R.Own.rd hM (.head _)).cutA (lo := i) (by omega) hroom) ?_ (fun v hv => one_flatB M v (List.mem_of_mem_drop hv)) (fun w4x hM => ?_)
    · rw [List.drop_append_of_le_length (by omega)]
      rw [List.take_append_of_le_length (by rw [List.length_drop]; omega), List.take_of_length_le (by rw [List.length_drop]; omega)]
    (refine R.stepV ?_; (repeat' (first | (with_reducible refine And.intro ?_ ?_) | (with_reducible intro _))); all_goals refine R.Lft.mk ?_)
    refine R.WO_copyR (k := 1) (lo := i) (ss := cBn y) rfl rfl rfl hM R.Upd.head (by omega) (by omega) (Nat.min_eq_left (by omega)) (by omega) (by omega) (R.Own.rd hM (.tail _ (.head _))) rfl (encc_Bn.one y) (fun w4 hM => ?_)
    (refine R.stepV ?_; (repeat' (first | (with_reducible refine And.intro ?_ ?_) | (with_reducible intro _))); all_goals refine R.Lft.mk ?_)
    refine ⟨_, _, rfl, ?_⟩
    have he := ins_room (cs := M.flatMap cBn) (ex := ex) (ys := cBn y) (a := i * 3) (r := (n - i) * 3) (by omega) hex
    rw [flat_takeB, flat_dropB] at he
    rw [List.flatMap_append, List.flatMap_cons, ← he]
    rw [show (i + 1) * 3 = i * 3 + 3 by omega, show i * 3 + 1 * 3 = i * 3 + 3 by omega, flat_dropB] at hM
    exact R.Own.tl2 hM
  · refine R.calls_of_WC (fn := Tryz.f52) Tryz.func52 rfl Tryz.ntmps52 (Nat.le_of_ble_eq_true rfl) ?_
    (refine R.stepV ?_; (repeat' (first | (with_reducible refine And.intro ?_ ?_) | (with_reducible intro _))); all_goals refine R.Lft.mk ?_)
    refine R.WO_appMk (k := n + 1 - i) rfl (by kernel_rfl) rfl rfl (by omega) hM (.tail _ (.head _)) (by omega) hi (by omega) (by omega) (by omega) (by omega) (fun A1 c1 zs w2 hzs hM => ?_)
    have e1 : i + (n + 1 - i) = n + 1 := by omega
    rw [e1] at hM ⊢
    have hcap1 := cap_ofR hM (.head _)
    (refine R.stepV ?_; (repeat' (first | (with_reducible refine And.intro ?_ ?_) | (with_reducible intro _))); all_goals refine R.Lft.mk ?_)
    refine R.WO_copyR (k := 1) (lo := i) (ss := cBn y) rfl rfl rfl hM R.Upd.head (by omega) (by omega) (Nat.min_eq_left (by omega)) (by omega) (by omega) (R.Own.rd hM (.tail _ (.head _))) rfl (encc_Bn.one y) (fun w4x hM => ?_)
    (refine R.stepV ?_; (repeat' (first | (with_reducible refine And.intro ?_ ?_) | (with_reducible intro _))); all_goals refine R.Lft.mk ?_)
    rename_i hM
    refine R.WO_copyR (k := n - i) (lo := i + 1) (ss := (M.flatMap cBn).drop (i * 3)) rfl rfl rfl hM R.Upd.head (by omega) (by omega) (by show min _ _ = _; omega) (by omega) (by omega) ((R.Own.rd hM (.tail _ (.tail _ (.head _)))).cutA (lo := i) hi hcap.1) ?_ (fun v hv => one_flatB M v (List.mem_of_mem_drop hv)) (fun w4 hM => ?_)
    · rw [List.take_of_length_le (by rw [List.length_drop]; omega)]
    (refine R.stepV ?_; (repeat' (first | (with_reducible refine And.intro ?_ ?_) | (with_reducible intro _))); all_goals refine R.Lft.mk ?_)
    refine ⟨_, _, rfl, ?_⟩
    have he := ins_grow (cs := M.flatMap cBn) (zs := zs) (ys := cBn y) (a := i * 3) (r := (n - i) * 3) (by omega) (by omega) rfl
    rw [flat_takeB, flat_dropB] at he
    rw [List.flatMap_append, List.flatMap_cons, ← he]
    rw [show (i + 1) * 3 = i * 3 + 3 by omega, show i * 3 + 1 * 3 = i * 3 + 3 by omega, flat_takeB, flat_dropB] at hM
    exact R.Own.tl2 (R.Own.tl2 hM)
set_option maxHeartbeats 2000000 in
theorem deleteB_any {F : List Nat} {W w : World} {l : List R.Res} {A : Option Addr} {n c i : Nat} {M : List Bn} (hb : n ≤ 1000000) (hn : n = M.length) (hi : i < n) (hM : R.Own F W w (.row A n c 50 3 (M.flatMap cBn) :: l)) :
    Calls Tryz.prog 54 #[.slice A n c, .int .i64 (i : Nat), .int .i64 (((i : Nat) : Int) + 1)] w fun e w' => e = .returned (.slice A (n - 1) c) ∧ R.Own F W w' (.row A (n - 1) c 50 3 ((M.take i ++ M.drop (i + 1)).flatMap cBn) :: l) := by
  have hcap := cap_ofR hM (.head _)
  have hcs := flat_lenB M
  obtain ⟨g, cur, rfl, _⟩ := row_form5 (hM.ok _ (.head _) : w.ownsRow 0 50 3 (.slice A n c) n (M.flatMap cBn)) (by omega)
  have hB : ∃ b, R.cutA (some ⟨g, 0, none⟩) c (i + 1) 3 = some b := by
    unfold R.cutA
    split
    · exact ⟨_, rfl⟩
    · exact ⟨_, rfl⟩
  refine R.calls_of_WC (fn := Tryz.f54) Tryz.func54 rfl Tryz.ntmps54 (Nat.le_of_ble_eq_true rfl) ?_
  (refine R.stepV ?_; (repeat' (first | (with_reducible refine And.intro ?_ ?_) | (with_reducible intro _))); all_goals refine R.Lft.mk ?_)
  rename_i w2 hM
  refine R.WO_appIn rfl rfl rfl hM (by omega) (by omega) (by omega) hB ((R.Own.rd hM (.head _)).cutA (lo := i + 1) (by omega) hcap.1) (fun v hv => one_flatB M v (List.mem_of_mem_drop hv)) (fun w4x hM => ?_)
  have e1 : i + (n - ((i : Int) + 1).toNat) = n - 1 := by omega
  rw [e1] at hM ⊢
  rw [flat_takeB, flat_dropB, ← List.flatMap_append] at hM
  (refine R.stepV ?_; (repeat' (first | (with_reducible refine And.intro ?_ ?_) | (with_reducible intro _))); all_goals refine R.Lft.mk ?_)
  refine WO_slcLH rfl rfl rfl rfl (by omega) (by omega) (by omega) ?_
  (refine R.stepV ?_; (repeat' (first | (with_reducible refine And.intro ?_ ?_) | (with_reducible intro _))); all_goals refine R.Lft.mk ?_)
  refine R.WO_clearR (sz := 3) (e := 50) (z := .agg #[.int .i64 0, .int .i64 0, .bool false]) (lo := n - 1) (k := n - (n - 1)) (cc := c) rfl rfl (fun v hv => ?_) (by decide) rfl hM (by omega) (by omega) (by omega) (by omega) (fun w4 hM => ?_)
  · have : v = .int .i64 0 ∨ v = .int .i64 0 ∨ v = .bool false := by simpa [Value.cells] using hv
    rcases this with rfl | rfl | rfl <;> rfl
  (refine R.stepV ?_; (repeat' (first | (with_reducible refine And.intro ?_ ?_) | (with_reducible intro _))); all_goals refine R.Lft.mk ?_)
  exact ⟨rfl, hM⟩
theorem clone_Bn (A : Option Addr) (n c : Nat) (L : List Bn) (w : World) (hA : R.Inp [] w A n 3 (L.flatMap cBn)) (hn : n = L.length) (hb : n ≤ 1000000000) :
    Calls Tryz.prog 53 #[.slice A n c] w fun e w' => ∃ A' c', e = .returned (.slice A' n c') ∧ R.Gives w w' A' n c' 50 3 (L.flatMap cBn) := by
  have hM := R.Own.start [] w
  cases hA0 : A with
  | none =>
    subst hA0
    have hn0 : n = 0 := by
      rcases Nat.eq_zero_or_pos n with h | h
      · exact h
      · obtain ⟨a, ha⟩ := (hM.rdIn hA).some_ h (by omega)
        cases ha
    subst hn0
    have hL : L = [] := List.eq_nil_of_length_eq_zero hn.symm
    subst hL
    refine R.calls_of_WC (fn := Tryz.f53) Tryz.func53 rfl Tryz.ntmps53 (Nat.le_of_ble_eq_true rfl) ?_
    (refine R.stepV ?_; (repeat' (first | (with_reducible refine And.intro ?_ ?_) | (with_reducible intro _))); all_goals refine R.Lft.mk ?_)
    exact ⟨none, 0, rfl, (hM.nil _ _).gives⟩
  | some a =>
    subst hA0
    refine R.calls_of_WC (fn := Tryz.f53) Tryz.func53 rfl Tryz.ntmps53 (Nat.le_of_ble_eq_true rfl) ?_
    (refine R.stepV ?_; (repeat' (first | (with_reducible refine And.intro ?_ ?_) | (with_reducible intro _))); all_goals refine R.Lft.mk ?_)
    rename_i A1 c1 w1 hM1 A2 c2 w2 hM2
    exact ⟨A2, c2, by rw [Nat.zero_add], by simpa using hM2.gives⟩
end Go.Proofs.YtgciglnkofoacaaGreat
