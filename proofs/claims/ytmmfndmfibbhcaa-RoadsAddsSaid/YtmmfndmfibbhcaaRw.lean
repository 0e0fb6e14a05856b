/- Rows of structs: copies within and over them, rows made longer by zero values, what lies behind a row made zero. -/
import Derived.Test.YtmmfndmfibbhcaaHf
import Derived.Lib.AppendZerosOnto
import Derived.Lib.Overlaps
import Derived.Laws.IdiomCopy
namespace Go.Proofs.Ytmmfndmfibbhcaa
open Go.RowKit
open R (In64 InU64 lo64 nth)
namespace R
section
variable {P : Program} {C : CallH} {o : Oper} {f : Fr} {w : World} {K : Value → World → Prop} {t t' e : TypeId} {x y : Operand} {n c c1 m mc d dc sz lo k cc : Nat} {A B : Option Addr} {F : List Nat} {W : World} {l l' : List Res} {cs ms ss : List Value}
theorem run_copyS (w : World) (dT sT ty elem : TypeId) (b ob dLen dCap : Nat) (a : Addr) (sLen sCap : Nat) (cs : List Value) (hu : P.underlying dT = some (.slice elem)) (hs : szT P elem = some sz) (hn : cs.length = Nat.min sLen dLen * sz)
    (hsrc : ∀ j v, cs[j]? = some v → w.cell? (a.add j) = some v) (hdst : ∀ j, j < cs.length → (w.cell? ⟨b, ob + j, none⟩).isSome = true) (hfz : ∀ j, j < cs.length → w.frozen? ⟨b, ob + j, none⟩ = false) (h1 : ∀ v ∈ cs, v.oneCell' = true) :
    (Builtin.copy_ #[dT, sT] ty #[.slice (some ⟨b, ob, none⟩) dLen dCap, .slice (some a) sLen sCap]).run P w = .ok (goInt (Nat.min sLen dLen)) (w.setCells b ob cs) := by
  have hl := run_loadCells_list (P := P) w a cs hsrc
  have hst := run_storeCells_cells (P := P) b ob cs 0 w (by simpa using hdst) (by simpa using hfz) h1
  unfold szT at hs
  cases hq : P.info? elem with
  | none => simp [hq] at hs
  | some i =>
    have hi : i.size = sz := by simpa [hq] using hs
    rw [hn] at hl
    simp [Builtin.copy_, run_underlying hu, Builtin.lenOf, Builtin.firstCells, sizeOf, typeInfo, hq, hi, hl]
    simpa using congrArg (fun r => r.andThen fun _ w' => (Result.ok (goInt (Nat.min sLen dLen)) w' : Result Value)) hst
/-- A row with room takes one more element, whatever lies there. -/
theorem own_ext {a : Addr} (hM : Own F W w (.row (some a) n c e sz cs :: l)) (hnc : n < c) : ∃ ex : List Value, ex.length = sz ∧ Own F W w (.row (some a) (n + 1) c e sz (cs ++ ex) :: l) := by
  have hr : w.ownsRow 0 e sz (.slice (some a) n c) n cs := hM.ok _ (.head _)
  rcases hr.2 with ⟨hv, _⟩ | ⟨g', cap, cur, hv, h1, h2, h3, h4, h5, h6⟩
  · cases hv
  · injection hv with a1 a2 a3
    injection a1 with a1
    subst a1 a3
    have hsz : (n + 1) * sz ≤ cur.toList.length := by
      rw [Array.length_toList, h5]
      exact Nat.mul_le_mul_right _ hnc
    have e1 : (n + 1) * sz = n * sz + sz := Nat.succ_mul n sz
    refine ⟨(cur.toList.drop (n * sz)).take sz, by rw [List.length_take, List.length_drop]; omega, hM.upd .head ⟨rfl, rfl, rfl, Nat.le_refl _, fun _ _ _ => rfl⟩ ⟨?_, .inr ⟨g', c, cur, rfl, Nat.zero_le _, h2, by omega, h4, h5, ?_⟩⟩ (.inl rfl)⟩
    · rw [List.length_append, hr.1, List.length_take, List.length_drop]
      omega
    · rw [e1, ← h6]
      rw [List.take_add]
/-- copy(s[lo:], src) into a row of the call's own. -/
theorem WO_copyR (hop : o.op = .call { callee := .builtin .copy, args := #[x, y], argTypes := #[t, t'] }) [hS : SliceT P t e sz] (hx : ev f x = .slice (cutA A cc lo sz) d dc) (hy : ev f y = .slice B m mc) (hM : Own F W w l)
    (hu : Upd l (.row A n c e sz cs) (.row A n c e sz (cs.take (lo * sz) ++ (ss ++ cs.drop (lo * sz + k * sz)))) l') (hcc : cc ≠ lo) (hk0 : 0 < k) (hkd : Nat.min m d = k) (hlk : lo + k ≤ n) (hs0 : 0 < sz) (hr : Rd w B m sz ms) (hss : ms.take (k * sz) = ss) (h1 : ∀ v ∈ ss, v.oneCell' = true)
    (hk : ∀ w', Own F W w' l' → K (.int .i64 (k : Nat)) w') : WO P C o f w K := by
  have hrow : w.ownsRow 0 e sz (.slice A n c) n cs := hM.ok _ hu.old
  obtain ⟨g, cur, rfl, hg, hnc, hcm, hcs, hct⟩ := row_form hrow (by omega)
  have hm0 : 0 < m := by
    rcases Nat.eq_zero_or_pos m with h | h
    · subst h; rw [show Nat.min 0 d = 0 from Nat.zero_min _] at hkd; omega
    · exact h
  obtain ⟨a, rfl⟩ := hr.some_ hm0 hs0
  have hkm : k ≤ m := by rw [← hkd]; exact Nat.min_le_left _ _
  have hl : ss.length = k * sz := by
    rw [← hss, List.length_take, hr.1]
    exact Nat.min_eq_left (Nat.mul_le_mul_right _ hkm)
  have hfit : lo * sz + k * sz ≤ n * sz := by rw [← Nat.add_mul]; exact Nat.mul_le_mul_right _ hlk
  have hcz : n * sz ≤ cur.size := by rw [hcs]; exact Nat.mul_le_mul_right _ hnc
  have hx2 : ev f x = .slice (some ⟨g, lo * sz, none⟩) d dc := by
    rw [hx]
    unfold cutA
    rw [if_neg hcc]
    simp [Addr.add_lit]
  have hc := run_copyS (P := P) w t t' o.type e g (lo * sz) d dc a m mc ss hS.h hS.s (by rw [hkd, hl])
    (fun j v hj => by
      rw [← hss, List.getElem?_take] at hj
      split at hj
      · obtain ⟨a', ha, hv⟩ := hr.2 j v hj
        cases ha
        exact hv
      · cases hj)
    (fun j hj => by simp only [World.cell?, hg]; rw [Array.getElem?_eq_getElem (by omega)]; rfl) (fun j hj => by simp [World.frozen?, hg]) h1
  obtain ⟨c2, b1, b2, b3, b4⟩ := setCells_blk g e ss (lo * sz) w cur hg (by omega)
  have hcl : cs.length = n * sz := hrow.1
  refine WO_eff (v := .int .i64 (k : Nat)) (w' := w.setCells g (lo * sz) ss) ?_ (hk _ (hM.upd hu b4 ⟨by rw [List.length_append, List.length_append, List.length_take, List.length_drop]; omega, .inr ⟨g, c, c2, rfl, Nat.zero_le _, b1, hnc, hcm, by rw [b2, hcs], ?_⟩⟩ (.inl rfl)))
  · simp only [execOp, hop, resolve, invoke, builtin, Sem.run_bind, Sem.run_pure, Result.andThen_ok, List.map_toArray, List.map_cons, List.map_nil, hx2, hy, hc, hkd]
    rfl
  · rw [b3, ← hct]
    have e1 : (cur.toList.take (lo * sz)).length = lo * sz := by rw [List.length_take, Array.length_toList]; omega
    rw [show n * sz = lo * sz + (n * sz - lo * sz) by omega, tA e1, show n * sz - lo * sz = k * sz + (n * sz - lo * sz - k * sz) by omega, tA hl, List.take_take, List.drop_take, hl, show min (lo * sz) (lo * sz + (k * sz + (n * sz - lo * sz - k * sz))) = lo * sz by omega,
      show lo * sz + (k * sz + (n * sz - lo * sz - k * sz)) - (lo * sz + k * sz) = n * sz - lo * sz - k * sz by omega]
theorem zeroCells_size (z : Array Value) (n : Nat) : (Builtin.zeroCells z n).size = n * z.size := by simp [Builtin.zeroCells]
/-- append(s[:i], make(S, k)...) where there is no room: a new row; behind the first i elements lie zero values. -/
theorem WO_appMk {i bytes : Nat} {z : Value} {q : Int} (hop : o.op = .call { callee := .builtin .append, args := #[x, y], argTypes := #[t, t'] }) [hS : SliceT P t e sz] [EL : ElemT P e z sz bytes] (ht' : P.underlying t' = some (.int .i64)) (hx : ev f x = .slice A i c) (hy : ev f y = .int .i64 q) (hq : q = (k : Nat))
    (hM : Own F W w l) (hm : .row A n c e sz cs ∈ l) (hn0 : 0 < n) (hin : i ≤ n) (hg : c < i + k) (hk0 : 0 < k) (h63 : i + k ≤ 1000000000) (hby : (i + k) * bytes ≤ 140737488355328)
    (hk : ∀ A1 c1 zs w', zs.length = k * sz → Own F W w' (.row A1 (i + k) c1 e sz (cs.take (i * sz) ++ zs) :: l) → K (.slice A1 (i + k) c1) w') : WO P C o f w K := by
  subst hq
  have hrow : w.ownsRow 0 e sz (.slice A n c) n cs := hM.ok _ hm
  obtain ⟨g, cur, rfl, hgb, hnc, hcm, hcs, hct⟩ := row_form hrow hn0
  obtain ⟨i0, hi0, hz0, hz1, hz2⟩ := info_parts EL.h
  have hcl : cs.length = n * sz := hrow.1
  have hol : (cs.take (i * sz)).length = i * sz := by
    rw [List.length_take, hcl]
    exact Nat.min_eq_left (Nat.mul_le_mul_right _ hin)
  have hold : (Builtin.firstCells i0.size i (.slice (some ⟨g, 0, none⟩) i c)).run P w.drew = .ok (cs.take (i * sz)).toArray w.drew := by
    have := run_loadCells_list (P := P) w.drew ⟨g, 0, none⟩ (cs.take (i * sz)) (fun j v hj => by
      rw [List.getElem?_take] at hj
      split at hj
      · have := blk_cell (w := w) hgb hct j v hj
        rw [Addr.add_lit]
        exact this
      · cases hj)
    rw [hol] at this
    rw [hz1]
    exact this
  have hb48 : k * i0.bytes ≤ 281474976710656 := by
    rw [hz2]
    have : k * bytes ≤ (i + k) * bytes := Nat.mul_le_mul_right _ (Nat.le_add_left _ _)
    omega
  have hrun := Lib.run_append_grow_zeros w t t' o.type e i0 z .i64 .i64 hS.h ht' hi0 hz0 (some ⟨g, 0, none⟩) i c (cs.take (i * sz)) hold k hk0 (by rw [hz1]; exact EL.p) hg (by omega) hb48 (by rw [hz2]; exact growslice_fits hg hby)
  have hge := grownCap_ge w (i + k) c e
  have hle := grownCap_le_maxLen w (i + k) c e (by unfold maxLen; omega)
  obtain ⟨G, hG⟩ : ∃ G, grownCap w (i + k) c e = G := ⟨_, rfl⟩
  rw [hG] at hrun hge hle
  refine WO_eff (v := .slice (some ⟨w.heap.size, 0, none⟩) (i + k) G) (w' := w.drew.alloc (.cells ((cs.take (i * sz)).toArray ++ Builtin.zeroCells z.cells k ++ Builtin.zeroCells z.cells (G - (i + k))) e)) ?_ (hk (some ⟨w.heap.size, 0, none⟩) G (Builtin.zeroCells z.cells k).toList _ (by rw [Array.length_toList, zeroCells_size, EL.c]) ?_)
  · simp [execOp, hop, resolve, invoke, builtin, hx, hy, hrun, Result.andThen]
  · have hsz : ((cs.take (i * sz)).toArray ++ Builtin.zeroCells z.cells k ++ Builtin.zeroCells z.cells (G - (i + k))).size = G * sz := by
      rw [Array.size_append, Array.size_append, zeroCells_size, zeroCells_size, EL.c, List.size_toArray, hol, ← Nat.add_mul, ← Nat.add_mul]
      congr 1
      omega
    have h1 := own_of_alloc (w := w.drew) ((cs.take (i * sz)).toArray ++ Builtin.zeroCells z.cells k ++ Builtin.zeroCells z.cells (G - (i + k))) e sz G 0 (Nat.zero_le _) hle hsz
    have hMd : Own F W w.drew l := hM.drew
    have h2 : Own F W _ (.row (some ⟨w.heap.size, 0, none⟩) G G e sz ((cs.take (i * sz)).toArray ++ Builtin.zeroCells z.cells k ++ Builtin.zeroCells z.cells (G - (i + k))).toList :: l) := hMd.add (World.grownBy_alloc w.drew _ none) h1 (fun k e => by cases e; exact Nat.le_refl _)
    have h3 := own_cut (k := i + k) h2 hge
    have e1 : (((cs.take (i * sz)).toArray ++ Builtin.zeroCells z.cells k ++ Builtin.zeroCells z.cells (G - (i + k))).toList.take ((i + k) * sz)) = cs.take (i * sz) ++ (Builtin.zeroCells z.cells k).toList := by
      rw [Array.toList_append, Array.toList_append]
      have hl2 : (cs.take (i * sz) ++ (Builtin.zeroCells z.cells k).toList).length = (i + k) * sz := by
        rw [List.length_append, hol, Array.length_toList, zeroCells_size, EL.c, ← Nat.add_mul]
      have := tA (b := (Builtin.zeroCells z.cells (G - (i + k))).toList) hl2 0
      rwa [Nat.add_zero, List.take_zero, List.append_nil] at this
    rw [e1] at h3
    exact h3
/-- What slices.Insert asks of what it lays in, and of its row: they do not overlap. -/
theorem run_overlaps_own {n2 d2 : Nat} {cs2 : List Value} {tS tR : TypeId} (hM : Own F W w (.row B m mc e sz ms :: .row A n2 d2 e sz cs2 :: l)) (hm : 0 < m) (hn : 0 < n2) (hu : P.underlying tS = some (.slice e)) (hz : szT P e = some sz) (hz0 : 0 < sz) (lb cb : Nat) :
    (Extern.SlicesOverlaps.overlaps #[tS, tS] #[tR] #[.slice B m mc, .slice (cutA A cc lo sz) lb cb]).run P w = .ok (.bool false) w := by
  obtain ⟨g2, cur2, rfl, hg2, hd1, hd2, hcs2, hct2⟩ := row_form (hM.ok _ (.head _) : w.ownsRow 0 e sz (.slice B m mc) m ms) hm
  obtain ⟨g, cur, rfl, hg, hnc, hcm, hcs, hct⟩ := row_form (hM.ok _ (.tail _ (.head _)) : w.ownsRow 0 e sz (.slice A n2 d2) n2 cs2) hn
  have hne : g2 ≠ g := fun e => by
    have := hM.nodup
    simp [R.Res.key, R.blockOf, e] at this
  have hA : ∃ q, cutA (some ⟨g, 0, none⟩) cc lo sz = some ⟨g, q, none⟩ := by
    unfold cutA
    split
    · exact ⟨0, rfl⟩
    · exact ⟨0 + lo * sz, by simp [Addr.add_lit]⟩
  obtain ⟨q, hq⟩ := hA
  rw [hq]
  have hp : 0 < cur.size := by
    rw [hcs]
    exact Nat.mul_pos (by omega) hz0
  exact Lib.run_overlaps_apart w tS tR e hu sz (fun w => run_sz hz w) ⟨g2, 0, none⟩ ⟨g, q, none⟩ m mc lb cb hne e e cur2.size cur.size (by simp only [World.shape?, hg2]) (by simp only [World.shape?, hg]) (by omega) (by simp [World.frozen?, hg2]) (by simp [World.frozen?, hg2])
end
end R
end Go.Proofs.Ytmmfndmfibbhcaa
