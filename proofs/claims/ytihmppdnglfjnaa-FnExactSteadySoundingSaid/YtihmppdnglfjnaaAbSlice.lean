/- Own work: a part of the library under the claims of this seat. -/
/-
The soundness of what makes slices: built, made, cut, appended to, copied.
-/
import Derived.Test.YtihmppdnglfjnaaAbExec2
import Derived.Deep.AppendSrc
import Derived.Deep.Upon
import Derived.Laws.IdiomCopy
namespace Go.Ab
open Go.RowKit

section
variable {P : Program} {c : Cx ieee}

/-! rows of zeros -/
theorem madeCells_zero {z : Array Value} : madeCells z 0 = #[] := by simp [madeCells]
theorem madeCells_add {z : Array Value} {s n : Nat} (hs : z.size = s) : (madeCells z (s + n * s)).toList = z.toList ++ (madeCells z (n * s)).toList := by
  unfold madeCells
  simp only [Array.toList_map, Array.toList_range, List.range_add, List.map_append, List.map_map]
  congr 1
  · apply List.ext_getElem
    · simp [hs]
    · intro i h1 h2
      have hi : i < z.size := by simpa using h2
      simp only [List.getElem_map, List.getElem_range, Array.getElem_toList]
      rw [Nat.mod_eq_of_lt hi, getElem!_pos z i hi]
  · apply List.map_congr_left
    intro i _
    simp only [Function.comp]
    rw [← hs, Nat.add_mod_left]
theorem zeros_rel {z : List A} {zc : Array Value} (h : L2 (SRel []) z zc.toList) : ∀ n : Nat, L2 (SRel []) (zeros z n) (madeCells zc (n * zc.size)).toList
  | 0 => by rw [Nat.zero_mul, madeCells_zero]; exact L2.nil _
  | n + 1 => by
    have e : (n + 1) * zc.size = zc.size + n * zc.size := by rw [Nat.add_mul, Nat.one_mul, Nat.add_comm]
    rw [e, madeCells_add rfl]
    have : zeros z (n + 1) = z ++ zeros z n := by simp [zeros, List.replicate_succ]
    rw [this]
    exact h.append (zeros_rel h n)
theorem zeros_length {z : List A} (n : Nat) : (zeros z n).length = n * z.length := by
  simp [zeros]

/-- a new row, as a slice -/
theorem Inv.mkSlice {w0 w : World} {S : Nat → Prop} {γ : Gam} {h : Heap ieee} (i : Inv w0 S γ h w) (cs : List A) (vs : Array Value) (T : TypeId) (hl : L2 (SRel []) cs vs.toList) {n cap es : Nat} (hn : n ≤ cap) (hc : cap ≤ maxLen) (hs : cap * es ≤ vs.size) :
    ∃ γ', Sub γ γ' ∧ VRel γ' (.slice h.length 0 n es : A) (.slice (some ⟨w.heap.size, 0, none⟩) n cap) ∧ Inv w0 S γ' (h ++ [.live true true cs]) (w.alloc (.cells vs T)) := by
  obtain ⟨hin, hsub⟩ := i.alloc cs vs T true hl
  refine ⟨_, hsub, ⟨⟨w.heap.size, 0, vs.size⟩, 0, cap, ?_, rfl, hn, hc, by simpa using hs, Nat.le_refl _, .inr rfl⟩, hin⟩
  rw [← i.hr.len]; simp

/-- a row that holds more than is told -/
theorem Inv.allocMore {w0 w : World} {S : Nat → Prop} {γ : Gam} {h : Heap ieee} (i : Inv w0 S γ h w) (cs : List A) (vs : Array Value) (T : TypeId) (hl : cs.length ≤ vs.size) (hc : ∀ (i : Nat) (c : A), cs[i]? = some c → ∃ v, vs[i]? = some v ∧ SRel [] c v) {n cap es : Nat} (hn : n ≤ cap) (hcm : cap ≤ maxLen) (hs : cap * es ≤ vs.size) :
    ∃ γ', Sub γ γ' ∧ VRel γ' (.slice h.length 0 n es : A) (.slice (some ⟨w.heap.size, 0, none⟩) n cap) ∧ Inv w0 S γ' (h ++ [.live true true cs]) (w.alloc (.cells vs T)) := by
  -- tell all of it, then less
  have hold : ∀ b, b < w.heap.size → (w.alloc (.cells vs T)).heap[b]? = w.heap[b]? := fun b hb => Below.heap_alloc w (.cells vs T) b hb
  have hnew : (w.alloc (.cells vs T)).heap[w.heap.size]? = some (.cells vs T) := heap_alloc_new w _
  have hsub : Sub γ (γ ++ [⟨w.heap.size, 0, vs.size⟩]) := Sub.append _ _
  have part : ∀ k r x, (γ ++ [⟨w.heap.size, 0, vs.size⟩])[k]? = some r → (h ++ [.live true true cs])[k]? = some x →
      (γ[k]? = some r ∧ h[k]? = some x) ∨ (k = γ.length ∧ r = ⟨w.heap.size, 0, vs.size⟩ ∧ x = .live true true cs) := by
    intro k r x h1 h2
    by_cases hk : k < γ.length
    · rw [List.getElem?_append_left hk] at h1
      rw [List.getElem?_append_left (by rw [← i.hr.len]; exact hk)] at h2
      exact .inl ⟨h1, h2⟩
    · rw [List.getElem?_append_right (by omega)] at h1
      rw [List.getElem?_append_right (by rw [← i.hr.len]; omega), ← i.hr.len] at h2
      have hk0 : k - γ.length = 0 := by
        have := (List.getElem?_eq_some_iff.1 h1).1
        simp at this; omega
      rw [hk0] at h1 h2
      simp at h1 h2
      exact .inr ⟨by omega, h1.symm, h2.symm⟩
  refine ⟨_, hsub, ⟨⟨w.heap.size, 0, vs.size⟩, 0, cap, by rw [← i.hr.len]; simp, rfl, hn, hcm, by simpa using hs, Nat.le_refl _, .inr rfl⟩, ⟨⟨by simp [i.hr.len], ?_, ?_⟩, i.os, i.tape, i.output, ?_, ?_, ?_⟩⟩
  · intro k r wr fl' cs' h1 h2
    rcases part k r _ h1 h2 with ⟨h1, h2⟩ | ⟨_, rfl, h2⟩
    · have hb := i.hr.blk k r wr fl' cs' h1 h2
      exact (hb.world (hold _ hb.lt)).gam hsub
    · cases h2
      refine ⟨vs, T, (0, 0), hnew, by simp, hl, ?_, fun _ => rfl⟩
      intro j c hc'
      obtain ⟨v, hv, hs'⟩ := hc j c hc'
      exact ⟨v, by simpa using hv, hs'⟩
  · intro k k' r r' fl' cs' wr'' fl'' cs'' hne h1 h1' h2 h2'
    rcases part k r _ h1 h2 with ⟨h1, h2⟩ | ⟨hk, rfl, h2⟩ <;> rcases part k' r' _ h1' h2' with ⟨h1', h2'⟩ | ⟨hk', rfl, h2'⟩
    · exact i.hr.own k k' r r' _ _ _ _ _ hne h1 h1' h2 h2'
    · have := (i.hr.blk k r _ _ _ h1 h2).lt
      simp; omega
    · have := (i.hr.blk k' r' _ _ _ h1' h2').lt
      simp; omega
    · omega
  · have := i.size; simp; omega
  · intro b hb hS
    rw [hold b (Nat.lt_of_lt_of_le hb i.size)]
    exact i.keep b hb hS
  · intro k r fl' cs' h1 h2
    rcases part k r _ h1 h2 with ⟨h1, h2⟩ | ⟨_, rfl, _⟩
    · exact i.mine k r _ _ h1 h2
    · exact .inr i.size

/-- a block is no more to be read -/
theorem Inv.kill {w0 w : World} {S : Nat → Prop} {γ : Gam} {h : Heap ieee} (i : Inv w0 S γ h w) (b : Nat) : Inv w0 S γ (h.set b .dead) w := by
  have part : ∀ (k : Nat) (wr fl : Bool) (cs : List A), (h.set b .dead)[k]? = some (.live wr fl cs) → k ≠ b ∧ h[k]? = some (.live wr fl cs) := by
    intro k wr fl cs hx
    rw [List.getElem?_set] at hx
    split at hx
    · split at hx <;> simp at hx
    · rename_i e; exact ⟨fun h => e h.symm, hx⟩
  refine ⟨⟨by simp [i.hr.len], ?_, ?_⟩, i.os, i.tape, i.output, i.size, i.keep, ?_⟩
  · intro k r wr fl cs h1 h2; exact i.hr.blk k r wr fl cs h1 (part k _ _ _ h2).2
  · intro k k' r r' fl cs wr' fl' cs' hne h1 h1' h2 h2'; exact i.hr.own k k' r r' _ _ _ _ _ hne h1 h1' (part k _ _ _ h2).2 (part k' _ _ _ h2').2
  · intro k r fl cs h1 h2; exact i.mine k r _ _ h1 (part k _ _ _ h2).2

/-- a block is written, and known by another number from then on -/
theorem Inv.moved {w0 w : World} {S : Nat → Prop} {γ : Gam} {h : Heap ieee} (i : Inv w0 S γ h w) {b : Nat} {fl : Bool} {cs cs' : List A} {r r' : Ref} {cur cur' : Array Value} {T : TypeId}
    (hb : h[b]? = some (.live true fl cs)) (hr : γ[b]? = some r) (hcur : w.heap[r.block]? = some (.cells cur T))
    (hblk : r'.block = r.block) (hfit : r'.base + r'.size ≤ cur'.size) (hlen : cs'.length ≤ r'.size) (hcs : ∀ (i : Nat) (c : A), cs'[i]? = some c → ∃ v, cur'[r'.base + i]? = some v ∧ SRel [] c v) :
    Inv w0 S (γ ++ [r']) (h.set b .dead ++ [.live true true cs']) (w.setRow r.block cur') ∧ Sub γ (γ ++ [r']) := by
  have hother : ∀ k, k ≠ r.block → (w.setRow r.block cur').heap[k]? = w.heap[k]? := fun k hk => setRow_other w r.block k cur' hk
  have hthis : (w.setRow r.block cur').heap[r.block]? = some (.cells cur' T) := setRow_heap w r.block cur cur' T (0, 0) hcur
  have hsub : Sub γ (γ ++ [r']) := Sub.append _ _
  have part : ∀ (k : Nat) (q : Ref) (wr fl' : Bool) (cs'' : List A), (γ ++ [r'])[k]? = some q → (h.set b .dead ++ [.live true true cs'])[k]? = some (.live wr fl' cs'') →
      (k ≠ b ∧ γ[k]? = some q ∧ h[k]? = some (.live wr fl' cs'')) ∨ (k = γ.length ∧ q = r' ∧ wr = true ∧ fl' = true ∧ cs'' = cs') := by
    intro k q wr fl' cs'' h1 h2
    by_cases hk : k < γ.length
    · rw [List.getElem?_append_left hk] at h1
      rw [List.getElem?_append_left (by simp; rw [← i.hr.len]; exact hk), List.getElem?_set] at h2
      split at h2
      · split at h2 <;> simp at h2
      · rename_i e; exact .inl ⟨fun h => e h.symm, h1, h2⟩
    · rw [List.getElem?_append_right (by omega)] at h1
      rw [List.getElem?_append_right (by simp; rw [← i.hr.len]; omega)] at h2
      simp only [List.length_set, ← i.hr.len] at h2
      have hk0 : k - γ.length = 0 := by
        have := (List.getElem?_eq_some_iff.1 h1).1
        simp at this; omega
      rw [hk0] at h1 h2
      simp only [List.getElem?_cons_zero] at h1 h2
      cases h1
      cases h2
      exact .inr ⟨by omega, rfl, rfl, rfl, rfl⟩
  refine ⟨⟨⟨by simp [i.hr.len], ?_, ?_⟩, i.os, i.tape, i.output, by rw [size_setRow]; exact i.size, ?_, ?_⟩, hsub⟩
  · intro k q wr fl' cs'' h1 h2
    rcases part k q _ _ _ h1 h2 with ⟨hk, h1, h2⟩ | ⟨_, rfl, rfl, rfl, rfl⟩
    · have hne := i.hr.own b k r q fl cs wr fl' cs'' (fun e => hk e.symm) hr h1 hb h2
      exact ((i.hr.blk k q wr fl' cs'' h1 h2).world (hother _ fun e => hne e.symm)).gam hsub
    · refine ⟨cur', T, (0, 0), by rw [hblk]; exact hthis, hfit, hlen, ?_, fun _ => rfl⟩
      intro j c hc
      exact hcs j c hc
  · intro k k' q q' fl1 cs1 wr2 fl2 cs2 hne h1 h1' h2 h2'
    rcases part k q _ _ _ h1 h2 with ⟨hk, u1, u2⟩ | ⟨hk, e, _⟩ <;> rcases part k' q' _ _ _ h1' h2' with ⟨hk', u1', u2'⟩ | ⟨hk', e', _⟩
    · exact i.hr.own k k' q q' _ _ _ _ _ hne u1 u1' u2 u2'
    · rw [e', hblk]; exact i.hr.own k b q r _ _ _ _ _ hk u1 hr u2 hb
    · rw [e, hblk]; exact i.hr.own b k' r q' _ _ _ _ _ (fun e => hk' e.symm) hr u1' hb u2'
    · omega
  · intro k hk hS
    have hm := i.mine b r fl cs hr hb
    rw [hother k (fun e => by
      subst e
      rcases hm with hm | hm
      · exact hS hm
      · omega)]
    exact i.keep k hk hS
  · intro k q fl' cs'' h1 h2
    rcases part k q _ _ _ h1 h2 with ⟨_, h1, h2⟩ | ⟨_, rfl, _⟩
    · exact i.mine k q _ _ h1 h2
    · rw [hblk]; exact i.mine b r fl cs hr hb

/-! a slice's elements -/
theorem srcOf_some {h : Heap ieee} {es : Nat} {x : A} {k : Nat → List A → R ieee} {r : A × Heap ieee} (hx : srcOf h es x k = some r) {γ : Gam} {w : World} {v : Value} (hr : HRel γ h w) (hv : VRel γ x v) {tx e' : TypeId} (hk : P.underlying tx = some (.slice e')) :
    ∃ m ns vs, k m ns = some r ∧ L2 (SRel []) ns vs ∧ Src P es tx v m vs w := by
  unfold srcOf at hx
  split at hx
  · rename_i b i m es'
    obtain ⟨h1, h2⟩ := gd_some hx
    have hes := Nat.eq_of_beq_eq_true h1
    subst hes
    unfold hget at h2
    split at h2
    · rename_i wr fl cs hb
      obtain ⟨h3, h4⟩ := gd_some h2
      obtain ⟨h5, h6⟩ := (Bool.and_eq_true _ _).mp h3
      subst h5
      have hle := Nat.le_of_ble_eq_true h6
      obtain ⟨rf, co, cap, hg, rfl, hmc, hcm, hfit, hbase, hco⟩ := hv
      obtain ⟨cur, T, fr, e1, e2, e3, e4, _⟩ := (hr.blk b rf wr true cs hg hb).ex
      -- the values
      have hlen : ((cs.drop i).take (m * es')).length = m * es' := by simp; omega
      have key : ∀ j c, ((cs.drop i).take (m * es'))[j]? = some c → ∃ v, cur[co + j]? = some v ∧ SRel [] c v := by
        intro j c hj
        have hjlt : j < m * es' := by rw [← hlen]; exact (List.getElem?_eq_some_iff.1 hj).1
        rw [List.getElem?_take, if_pos hjlt, List.getElem?_drop] at hj
        obtain ⟨v, hv1, hv2⟩ := e4 _ c hj
        rcases hco with rfl | rfl
        · simp at hjlt
        · exact ⟨v, by rw [Nat.add_assoc]; exact hv1, hv2⟩
      refine ⟨m, _, (List.range (m * es')).map fun j => (cur[co + j]?).getD undef, h4, ⟨by simp only [hlen, List.length_map, List.length_range], ?_⟩, ?_⟩
      · intro j c v hc hv
        obtain ⟨u, hu1, hu2⟩ := key j c hc
        rw [List.getElem?_map] at hv
        cases hj : (List.range (m * es'))[j]? with
        | none => rw [hj] at hv; cases hv
        | some j' =>
          have : j' = j := by
            have := (List.getElem?_eq_some_iff.1 hj).2
            simp at this; exact this.symm
          subst this
          rw [hj] at hv; cases hv
          show SRel [] c ((cur[co + j']?).getD undef)
          rw [hu1]; exact hu2
      · refine Src.ofSlice w hk _ m cap _ (by simp) ?_ ?_
        · intro j u hu
          rw [List.getElem?_map] at hu
          cases hj : (List.range (m * es'))[j]? with
          | none => rw [hj] at hu; cases hu
          | some j' =>
            have hjj : j' = j := by
              have := (List.getElem?_eq_some_iff.1 hj).2
              simp at this; exact this.symm
            subst hjj
            have hjlt : j' < m * es' := by have := (List.getElem?_eq_some_iff.1 hj).1; simpa using this
            rw [hj] at hu; cases hu
            have hin : co + j' < cur.size := by
              have : m * es' ≤ cap * es' := Nat.mul_le_mul_right _ hmc
              omega
            simp only [Addr.add_lit, World.cell?, e1]
            simp [Array.getElem?_eq_getElem hin]
        · intro u hu
          obtain ⟨j, hj⟩ := List.getElem?_of_mem hu
          have hjlt : j < m * es' := by have := (List.getElem?_eq_some_iff.1 hj).1; simpa using this
          obtain ⟨c, hc⟩ : ∃ c, ((cs.drop i).take (m * es'))[j]? = some c := ⟨_, List.getElem?_eq_getElem (by rw [hlen]; exact hjlt)⟩
          obtain ⟨u', hu1, hu2⟩ := key j c hc
          rw [List.getElem?_map] at hj
          have : (List.range (m * es'))[j]? = some j := by rw [List.getElem?_eq_getElem (by simpa using hjlt)]; simp
          rw [this] at hj; cases hj
          show ((cur[co + j]?).getD undef).oneCell' = true
          rw [hu1]; exact hu2.one
    · cases h2
  · have e : v = .slice none 0 0 := hv
    subst e
    exact ⟨0, [], [], hx, L2.nil _, Src.ofNil w hk 0⟩
  · cases hx

theorem ownOf_some {h : Heap ieee} {b : Nat} {k : List A → R ieee} {r : A × Heap ieee} (hx : ownOf h b k = some r) : ∃ cs, h[b]? = some (.live true true cs) ∧ k cs = some r := by
  unfold ownOf at hx
  split at hx
  · rename_i cs hb; exact ⟨cs, hb, hx⟩
  · cases hx

theorem append_sound (hc : CtxOk P c) {ts : List TypeId} {args : List A} {h : Heap ieee} {k : A → Heap ieee → R ieee} {r : A × Heap ieee} (hx : appendS c ts args h k = some r)
    {γ : Gam} {vargs : Array Value} {w w0 : World} {S : Nat → Prop} (hi : Inv w0 S γ h w) (ha : L2 (VRel γ) args vargs.toList) (type : TypeId) :
    ∃ av h' γ' v w', k av h' = some r ∧ Sub γ γ' ∧ VRel γ' av v ∧ Inv w0 S γ' h' w' ∧ (Builtin.append_ ts.toArray type vargs).run P w = .ok v w' := by
  unfold appendS at hx
  split at hx
  · rename_i t tx s x
    obtain ⟨vs, m0, e1, hvs, e2⟩ := ha.uncons
    obtain ⟨vx, m1, rfl, hvx, e3⟩ := e2.uncons
    have := e3.nil_iff
    subst this
    obtain rfl : vargs = #[vs, vx] := by apply Array.ext'; simpa using e1
    obtain ⟨ti, hti, h1⟩ := withTy_some hx
    obtain ⟨xi, hxi, h2⟩ := withTy_some h1
    split at h2
    · rename_i el el' hk1 hk2
      have hu : P.underlying t = some (.slice el) := by have := (hc.ty t ti hti).kind; rw [hk1] at this; exact this
      have hux : P.underlying tx = some (.slice el') := by have := (hc.ty tx xi hxi).kind; rw [hk2] at this; exact this
      obtain ⟨et, het, h3⟩ := withTy_some h2
      obtain ⟨inf, z, i1, i2, i3, i4, i5⟩ := (hc.ty el et het).info
      obtain ⟨m, ns, news, h4, hl, hsrc⟩ := srcOf_some (P := P) h3 hi.hr hvx hux
      rw [← i2] at hsrc
      have hzl : z.cells.size = et.zero.length := by have := i5.1; simpa using this.symm
      have hnl : ns.length = m * inf.size := by rw [hl.1]; exact hsrc.newsLen
      -- a new row
      have grow : ∀ (base : Option Addr) (n cap : Nat) (olds : List A) (oldv : List Value), vs = .slice base n cap → appFits et (n + m) = true → cap < n + m → L2 (SRel []) olds oldv → oldv.length = n * inf.size →
          (Builtin.firstCells inf.size n (.slice base n cap)).run P w.drew = .ok oldv.toArray w.drew →
          ∃ v w' cap', (Builtin.append_ #[t, tx] type #[vs, vx]).run P w = .ok v w' ∧ w' = w.drew.alloc (.cells ((oldv ++ news).toArray ++ Builtin.zeroCells z.cells (cap' - (n + m))) el) ∧ v = .slice (some ⟨w.heap.size, 0, none⟩) (n + m) cap' ∧ n + m ≤ cap' ∧ cap' ≤ maxLen ∧
            cap' * et.size ≤ ((oldv ++ news).toArray ++ Builtin.zeroCells z.cells (cap' - (n + m))).size := by
        rintro base n cap olds oldv rfl hfit hlt hol hoL hfc
        unfold appFits at hfit
        obtain ⟨f12, f3⟩ := (Bool.and_eq_true _ _).mp hfit
        obtain ⟨f1, f2⟩ := (Bool.and_eq_true _ _).mp f12
        have f1 := Nat.eq_of_beq_eq_true f1
        have f2 := Nat.le_of_ble_eq_true f2
        have f3 := Nat.le_of_ble_eq_true f3
        have hrun := run_append_grow_src (P := P) w t tx type el inf z hu i1 i4 base n cap oldv hfc vx m news hsrc hlt (by omega) (growslice_fits hlt (by rw [i3]; exact f3))
        have hge := grownCap_ge w (n + m) cap el
        have hcm := grownCap_le_maxLen w (n + m) cap el (by simp only [maxLen]; omega)
        refine ⟨_, _, _, hrun, rfl, rfl, hge, hcm, ?_⟩
        rw [Array.size_append, List.size_toArray, List.length_append, hoL, hsrc.newsLen, size_zeroCells, hzl, f1, ← i2, ← Nat.add_mul, ← Nat.add_mul]
        exact Nat.mul_le_mul_right _ (by omega)
      split at h4
      · rename_i b i n es
        obtain ⟨g1, g2⟩ := gd_some h4
        obtain ⟨g3, g4⟩ := (Bool.and_eq_true _ _).mp g1
        have hes := Nat.eq_of_beq_eq_true g3
        subst hes
        obtain ⟨cs, hb, g5⟩ := ownOf_some g2
        obtain ⟨g6, g7⟩ := gd_some g5
        have hle := Nat.le_of_ble_eq_true g6
        obtain ⟨rf, co, cap, hg, rfl, hnc, hcm, hfit, hbase, hco⟩ := hvs
        obtain ⟨cur, T, fr, e1, e2, e3, e4, e5⟩ := (hi.hr.blk b rf true true cs hg hb).ex
        have hfr := e5 rfl
        subst hfr
        have hlen : ((cs.drop i).take (n * et.size)).length = n * et.size := by simp; omega
        have key : ∀ j c, ((cs.drop i).take (n * et.size))[j]? = some c → ∃ v, cur[co + j]? = some v ∧ SRel [] c v := by
          intro j c hj
          have hjlt : j < n * et.size := by rw [← hlen]; exact (List.getElem?_eq_some_iff.1 hj).1
          rw [List.getElem?_take, if_pos hjlt, List.getElem?_drop] at hj
          obtain ⟨v, hv1, hv2⟩ := e4 _ c hj
          rcases hco with rfl | rfl
          · simp at hjlt
          · exact ⟨v, by rw [Nat.add_assoc]; exact hv1, hv2⟩
        have hcap : n * et.size ≤ cap * et.size := Nat.mul_le_mul_right _ hnc
        by_cases hroom : n + m ≤ cap
        · -- there is room
          have hcapm : (n + m) * et.size ≤ cap * et.size := Nat.mul_le_mul_right _ hroom
          rw [Nat.add_mul] at hcapm
          have hnews : news.length = m * et.size := by rw [hsrc.newsLen, i2]
          have hst := run_storeCells_at P rf.block (co + n * et.size) T news 0 cur w e1 (by rw [hnews]; omega) hsrc.one
          simp only [Nat.add_zero] at hst
          let cur' := (cur.toList.take (co + n * et.size) ++ news ++ cur.toList.drop (co + n * et.size + news.length)).toArray
          have hrun : (Builtin.append_ #[t, tx] type #[.slice (some ⟨rf.block, co, none⟩) n cap, vx]).run P w = .ok (.slice (some ⟨rf.block, co, none⟩) (n + m) cap) (w.setRow rf.block cur') := by
            rw [← i2] at hst
            rcases hsrc.kind with ⟨e', hk⟩ | hk <;> simp [Builtin.append_, run_underlying hu, run_underlying hk, sizeOf, typeInfo, i1, hsrc.len, hroom, hsrc.cells, Addr.add_lit, ← i2, hst, cur']
          have hcl : cur.toList.length = cur.size := by simp
          have hcs' : cur'.size = cur.size := by
            simp only [cur', List.size_toArray, List.length_append, List.length_take, List.length_drop, hnews]
            omega
          obtain ⟨hin, hsub⟩ := hi.moved (r' := ⟨rf.block, co, cap * et.size⟩) (cur' := cur') (cs' := (cs.drop i).take (n * et.size) ++ ns) hb hg e1 rfl (by rw [hcs']; show co + cap * et.size ≤ _; omega)
            (by rw [List.length_append, hlen, hnl, i2]; show _ ≤ cap * et.size; omega) (by
              intro j c hj
              show ∃ v, cur'[co + j]? = some v ∧ SRel [] c v
              by_cases hj1 : j < n * et.size
              · rw [List.getElem?_append_left (by rw [hlen]; exact hj1)] at hj
                obtain ⟨v, hv1, hv2⟩ := key j c hj
                refine ⟨v, ?_, hv2⟩
                simp only [cur', List.getElem?_toArray, List.append_assoc]
                rw [List.getElem?_append_left (by simp; omega), List.getElem?_take, if_pos (by omega)]
                simpa using hv1
              · rw [List.getElem?_append_right (by rw [hlen]; omega), hlen] at hj
                obtain ⟨v, hv1, hv2⟩ := hl.get hj
                refine ⟨v, ?_, hv2⟩
                simp only [cur', List.getElem?_toArray, List.append_assoc]
                have ht : (cur.toList.take (co + n * et.size)).length = co + n * et.size := by simp; omega
                rw [List.getElem?_append_right (by rw [ht]; omega), ht, List.getElem?_append_left (by
                  have := (List.getElem?_eq_some_iff.1 hv1).1
                  omega)]
                rw [show co + j - (co + n * et.size) = j - n * et.size by omega]
                exact hv1)
          refine ⟨_, _, _, _, _, g7, hsub, ⟨⟨rf.block, co, cap * et.size⟩, co, cap, ?_, rfl, hroom, hcm, Nat.le_refl _, Nat.le_refl _, .inr rfl⟩, hin, hrun⟩
          rw [← hi.hr.len]; simp
        · have hfc : (Builtin.firstCells inf.size n (.slice (some ⟨rf.block, co, none⟩) n cap)).run P w.drew = .ok ((List.range (n * et.size)).map fun j => (cur[co + j]?).getD undef).toArray w.drew := by
            refine run_firstCells_some w.drew inf.size n _ n cap _ (by simp [i2]) ?_
            intro j u hu
            rw [List.getElem?_map] at hu
            cases hj : (List.range (n * et.size))[j]? with
            | none => rw [hj] at hu; cases hu
            | some j' =>
              have hjj : j' = j := by
                have := (List.getElem?_eq_some_iff.1 hj).2
                simp at this; exact this.symm
              subst hjj
              have hjlt : j' < n * et.size := by have := (List.getElem?_eq_some_iff.1 hj).1; simpa using this
              rw [hj] at hu; cases hu
              have hin : co + j' < cur.size := by omega
              have e1' : w.drew.heap[rf.block]? = some (.cells cur T (0, 0)) := e1
              simp only [Addr.add_lit, World.cell?, e1']
              simp [Array.getElem?_eq_getElem hin]
          have hol : L2 (SRel []) ((cs.drop i).take (n * et.size)) ((List.range (n * et.size)).map fun j => (cur[co + j]?).getD undef) := by
            refine ⟨by simp only [hlen, List.length_map, List.length_range], ?_⟩
            intro j c v hc' hv
            obtain ⟨u, hu1, hu2⟩ := key j c hc'
            rw [List.getElem?_map] at hv
            cases hj : (List.range (n * et.size))[j]? with
            | none => rw [hj] at hv; cases hv
            | some j' =>
              have : j' = j := by
                have := (List.getElem?_eq_some_iff.1 hj).2
                simp at this; exact this.symm
              subst this
              rw [hj] at hv; cases hv
              show SRel [] c ((cur[co + j']?).getD undef)
              rw [hu1]; exact hu2
          obtain ⟨v, w', cap', q1, rfl, rfl, q4, q5, q6⟩ := grow _ n cap _ _ rfl g4 (by omega) hol (by simp [i2]) hfc
          obtain ⟨γ', b1, b2, b3⟩ := ((hi.kill b).drawn (w' := w.drew) ⟨_, rfl⟩).allocMore ((cs.drop i).take (n * et.size) ++ ns) _ el (by
              have := (hol.append hl).1
              simp only [List.length_append] at this
              rw [Array.size_append, List.size_toArray]
              simp only [List.length_append]
              omega) (by
              intro j c hj
              obtain ⟨v, hv1, hv2⟩ := (hol.append hl).get hj
              refine ⟨v, ?_, hv2⟩
              rw [Array.getElem?_append_left (by have := (List.getElem?_eq_some_iff.1 hv1).1; simpa using this)]
              simpa using hv1) q4 q5 q6
          refine ⟨_, _, γ', _, _, g7, b1, ?_, b3, q1⟩
          have hlen2 : (h.set b Blk.dead).length = h.length := by simp
          rw [hlen2] at b2
          exact b2
      · obtain ⟨g1, g2⟩ := gd_some h4
        obtain ⟨g3, g4⟩ := (Bool.and_eq_true _ _).mp g1
        have hm : 0 < m := Nat.lt_of_succ_le (Nat.le_of_ble_eq_true g3)
        have e : vs = .slice none 0 0 := hvs
        obtain ⟨v, w', cap', q1, rfl, rfl, q4, q5, q6⟩ := grow none 0 0 [] [] e (by rw [Nat.zero_add]; exact g4) (by omega) (L2.nil _) (by simp) (run_firstCells_none _ _ _ _ _)
        obtain ⟨γ', b1, b2, b3⟩ := (hi.drawn (w' := w.drew) ⟨_, rfl⟩).allocMore ns _ el (by
              rw [Array.size_append, List.size_toArray]
              simp only [List.nil_append]
              have := hl.1
              omega) (by
              intro j c hj
              obtain ⟨v, hv1, hv2⟩ := hl.get hj
              refine ⟨v, ?_, hv2⟩
              rw [Array.getElem?_append_left (by have := (List.getElem?_eq_some_iff.1 hv1).1; simpa using this)]
              simpa using hv1) q4 q5 q6
        rw [Nat.zero_add] at b2 b3 q1
        exact ⟨_, _, γ', _, _, g2, b1, b2, b3, q1⟩
      · cases h4
    · cases h2
  · cases hx

theorem hget_some {h : Heap ieee} {b : Nat} {k : Bool → List A → R ieee} {r : A × Heap ieee} (hx : hget h b k = some r) : ∃ wr fl cs, h[b]? = some (.live wr fl cs) ∧ k fl cs = some r := by
  unfold hget at hx
  split at hx
  · rename_i wr fl cs hb; exact ⟨wr, fl, cs, hb, hx⟩
  · cases hx

theorem copy_sound (hc : CtxOk P c) {ts : List TypeId} {args : List A} {h : Heap ieee} {k : A → Heap ieee → R ieee} {r : A × Heap ieee} (hx : copyS c ts args h k = some r)
    {γ : Gam} {vargs : Array Value} {w w0 : World} {S : Nat → Prop} (hi : Inv w0 S γ h w) (ha : L2 (VRel γ) args vargs.toList) (type : TypeId) :
    ∃ av h' γ' v w', k av h' = some r ∧ Sub γ γ' ∧ VRel γ' av v ∧ Inv w0 S γ' h' w' ∧ (Builtin.copy_ ts.toArray type vargs).run P w = .ok v w' := by
  unfold copyS at hx
  split at hx
  · rename_i t tx b i n es x
    obtain ⟨vs, m0, e1, hvs, e2⟩ := ha.uncons
    obtain ⟨vx, m1, rfl, hvx, e3⟩ := e2.uncons
    have := e3.nil_iff
    subst this
    obtain rfl : vargs = #[vs, vx] := by apply Array.ext'; simpa using e1
    obtain ⟨ti, hti, h1⟩ := withTy_some hx
    split at h1
    · rename_i el hk1
      have hu : P.underlying t = some (.slice el) := by have := (hc.ty t ti hti).kind; rw [hk1] at this; exact this
      obtain ⟨et, het, h3⟩ := withTy_some h1
      obtain ⟨inf, z, i1, i2, i3, i4, i5⟩ := (hc.ty el et het).info
      obtain ⟨g1, g2⟩ := gd_some h3
      obtain ⟨g3, g4⟩ := (Bool.and_eq_true _ _).mp g1
      have g3 := Nat.eq_of_beq_eq_true g3
      have g4 := Nat.eq_of_beq_eq_true g4
      subst g3
      split at g2
      · rename_i b2 i2' m es2
        obtain ⟨q1, q2⟩ := gd_some g2
        obtain ⟨q3, q4⟩ := (Bool.and_eq_true _ _).mp q1
        have q3 := Nat.eq_of_beq_eq_true q3
        subst q3
        have q4 : 0 < min m n := Nat.lt_of_succ_le (Nat.le_of_ble_eq_true q4)
        obtain ⟨wr2, fl2, cs2, hb2, q5⟩ := hget_some q2
        obtain ⟨q6, q7⟩ := gd_some q5
        obtain ⟨q8, q9⟩ := (Bool.and_eq_true _ _).mp q6
        subst q8
        have q9 := Nat.le_of_ble_eq_true q9
        obtain ⟨cs, hb, q10⟩ := ownOf_some q7
        obtain ⟨q11, q12, q13⟩ := wrA_some q10
        obtain ⟨rf, co, cap, hg, rfl, hnc, hcm, hfit, hbase, hco⟩ := hvs
        obtain ⟨rf2, co2, cap2, hg2, rfl, hnc2, hcm2, hfit2, hbase2, hco2⟩ := hvx
        have hco : co = rf.base + i := hco.resolve_left (by omega)
        have hco2 : co2 = rf2.base + i2' := hco2.resolve_left (by omega)
        subst hco; subst hco2
        obtain ⟨cur, T, fr, e1, e2, e3, e4, e5⟩ := (hi.hr.blk b rf true true cs hg hb).ex
        have hfr := e5 rfl
        subst hfr
        obtain ⟨cur2, T2, fr2, d1, d2, d3, d4, _⟩ := (hi.hr.blk b2 rf2 wr2 true cs2 hg2 hb2).ex
        -- what goes over
        have hlen : ((cs2.drop i2').take (min m n)).length = min m n := by simp only [List.length_take, List.length_drop]; omega
        have key : ∀ j c, ((cs2.drop i2').take (min m n))[j]? = some c → ∃ v, cur2[rf2.base + i2' + j]? = some v ∧ SRel [] c v := by
          intro j c hj
          have hjlt : j < min m n := by rw [← hlen]; exact (List.getElem?_eq_some_iff.1 hj).1
          rw [List.getElem?_take, if_pos hjlt, List.getElem?_drop] at hj
          obtain ⟨v, hv1, hv2⟩ := d4 _ c hj
          exact ⟨v, by rw [Nat.add_assoc]; exact hv1, hv2⟩
        let news := (List.range (min m n)).map fun j => (cur2[rf2.base + i2' + j]?).getD undef
        have hnl : news.length = min m n := by simp [news]
        have hget : ∀ j, j < min m n → news[j]? = some ((cur2[rf2.base + i2' + j]?).getD undef) := by
          intro j hj
          simp only [news, List.getElem?_map]
          rw [List.getElem?_eq_getElem (by simpa using hj)]
          simp
        have hnews : L2 (SRel []) ((cs2.drop i2').take (min m n)) news := by
          refine ⟨by rw [hlen, hnl], ?_⟩
          intro j c v hc' hv
          have hjlt : j < min m n := by rw [← hnl]; exact (List.getElem?_eq_some_iff.1 hv).1
          rw [hget j hjlt] at hv; cases hv
          obtain ⟨u, hu1, hu2⟩ := key j c hc'
          rw [hu1]; exact hu2
        have hone : ∀ u ∈ news, u.oneCell' = true := by
          intro u hu
          obtain ⟨j, hj⟩ := List.getElem?_of_mem hu
          have hjlt : j < min m n := by rw [← hnl]; exact (List.getElem?_eq_some_iff.1 hj).1
          exact (hnews.2 j _ u (List.getElem?_eq_getElem (by rw [hlen]; exact hjlt)) hj).one
        have hl := run_loadCells_list (P := P) w ⟨rf2.block, rf2.base + i2', none⟩ news (by
          intro j u hj
          have hjlt : j < min m n := by rw [← hnl]; exact (List.getElem?_eq_some_iff.1 hj).1
          rw [hget j hjlt] at hj; cases hj
          have hin : rf2.base + i2' + j < cur2.size := by omega
          simp only [Addr.add_lit, World.cell?, d1]
          simp [Array.getElem?_eq_getElem hin])
        have hst := run_storeCells_at P rf.block (rf.base + i) T news 0 cur w e1 (by rw [hnl]; omega) hone
        simp only [Nat.add_zero] at hst
        have hi1 : inf.size = 1 := by rw [i2]; exact g4
        have hmn : Nat.min m n = min m n := rfl
        rw [hnl] at hl
        have hrun : (Builtin.copy_ #[t, tx] type #[.slice (some ⟨rf.block, rf.base + i, none⟩) n cap, .slice (some ⟨rf2.block, rf2.base + i2', none⟩) m cap2]).run P w =
            .ok (.int .i64 (min m n : Nat)) (w.setRow rf.block (cur.toList.take (rf.base + i) ++ news ++ cur.toList.drop (rf.base + i + news.length)).toArray) := by
          simp [Builtin.copy_, run_underlying hu, Builtin.lenOf, Builtin.firstCells, sizeOf, typeInfo, i1, hi1, hl, hst, goInt]
        have hcl : cur.toList.length = cur.size := by simp
        refine ⟨_, _, γ, _, _, q13, Sub.refl γ, rfl, ?_, hrun⟩
        refine hi.write hb hg e1 ?_ ?_ ?_
        · simp only [List.size_toArray, List.length_append, List.length_take, List.length_drop, hnl]
          omega
        · simp only [List.length_append, List.length_take, List.length_drop]
          omega
        · intro j c hj
          by_cases hj1 : j < i
          · rw [List.getElem?_append_left (by simp; omega), List.getElem?_take, if_pos hj1] at hj
            obtain ⟨u, hu, hs⟩ := e4 j c hj
            refine ⟨u, ?_, hs⟩
            rw [List.getElem?_toArray, List.append_assoc, List.getElem?_append_left (by simp; omega), List.getElem?_take, if_pos (by omega)]
            simpa using hu
          · rw [List.getElem?_append_right (by simp; omega)] at hj
            have hto : (cs.take i).length = i := by simp; omega
            rw [hto] at hj
            by_cases hj2 : j - i < min m n
            · rw [List.getElem?_append_left (by rw [hlen]; exact hj2)] at hj
              obtain ⟨u, hu, hs⟩ := hnews.get hj
              refine ⟨u, ?_, hs⟩
              rw [List.getElem?_toArray, List.append_assoc, List.getElem?_append_right (by simp; omega)]
              have : (cur.toList.take (rf.base + i)).length = rf.base + i := by simp; omega
              rw [this]
              have e : rf.base + j - (rf.base + i) = j - i := by omega
              rw [e, List.getElem?_append_left (by rw [hnl]; exact hj2)]
              exact hu
            · rw [List.getElem?_append_right (by rw [hlen]; omega), hlen, List.getElem?_drop] at hj
              have e1' : i + min m n + (j - i - min m n) = j := by omega
              rw [e1'] at hj
              obtain ⟨u, hu, hs⟩ := e4 j c hj
              refine ⟨u, ?_, hs⟩
              rw [List.getElem?_toArray, List.append_assoc, List.getElem?_append_right (by simp; omega)]
              have : (cur.toList.take (rf.base + i)).length = rf.base + i := by simp; omega
              rw [this, List.getElem?_append_right (by rw [hnl]; omega), List.getElem?_drop, hnl]
              have e : rf.base + i + min m n + (rf.base + j - (rf.base + i) - min m n) = rf.base + j := by omega
              rw [e]
              simpa using hu
      · cases g2
    · cases h1
  · cases hx

/-! cut -/
theorem opt_some {γ : Gam} {nt : Nat} {e : Env ieee} {a : Act} (he : ERel γ nt e a) {x : Option Operand} {d : Nat} {k : Nat → R ieee} {r : A × Heap ieee} (hx : opt e x d k = some r) :
    ∃ m, k m = some r ∧ ((x = none ∧ m = d) ∨ ∃ y q z, x = some y ∧ a.eval y = .int q z ∧ 0 ≤ z ∧ m = z.toNat) := by
  unfold opt at hx
  split at hx
  · exact ⟨d, hx, .inl ⟨rfl, rfl⟩⟩
  · rename_i y
    split at hx
    · rename_i q z hq
      obtain ⟨h1, h2⟩ := gd_some hx
      have hr := ev_rel he y
      rw [hq] at hr
      exact ⟨_, h2, .inr ⟨y, q, z, rfl, hr, of_decide_eq_true h1, rfl⟩⟩
    · cases hx

theorem bounds_run {a : Act} {lo hi : Option Operand} {isS : Bool} {len cap l u : Nat} {w : World} (hl : (lo = none ∧ l = 0) ∨ ∃ y q z, lo = some y ∧ a.eval y = .int q z ∧ 0 ≤ z ∧ l = z.toNat)
    (hu : (hi = none ∧ u = len) ∨ ∃ y q z, hi = some y ∧ a.eval y = .int q z ∧ 0 ≤ z ∧ u = z.toNat) (h1 : l ≤ u) (h2 : u ≤ cap) :
    (Instr.sliceBounds isS len cap (lo.map a.eval) (hi.map a.eval) none).run P w = .ok (l, u, cap) w := by
  rcases hl with ⟨rfl, rfl⟩ | ⟨y, q, z, rfl, e1, e2, rfl⟩ <;> rcases hu with ⟨rfl, rfl⟩ | ⟨y', q', z', rfl, e1', e2', rfl⟩
  · simp [Instr.sliceBounds]
  · simp only [Option.map_some, Option.map_none, Instr.sliceBounds, Sem.run_bind, Sem.run_pure, Result.andThen_ok, e1', run_sliceBound w q' z' cap _ e2' (by omega)]
  · simp only [Option.map_some, Option.map_none, Instr.sliceBounds, Sem.run_bind, Sem.run_pure, Result.andThen_ok, e1, run_sliceBound w q z u _ e2 (by omega)]
  · simp only [Option.map_some, Instr.sliceBounds, Sem.run_bind, Sem.run_pure, Result.andThen_ok, e1, e1', run_sliceBound w q' z' cap _ e2' (by omega), run_sliceBound w q z z'.toNat _ e2 (by omega)]

end
end Go.Ab
