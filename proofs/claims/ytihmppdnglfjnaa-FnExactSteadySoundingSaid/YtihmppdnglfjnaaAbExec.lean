/- Own work: a part of the library under the claims of this seat. -/
/-
The soundness of the abstract machine's single operations.
-/
import Derived.Test.YtihmppdnglfjnaaAbCall
namespace Go.Ab
open Go.RowKit

section
variable {P : Program} {c : Cx ieee}

/-- an operation that gives a value at once -/
def Gives (P : Program) (a : Act) (op : Op) (v : Value) (w w' : World) : Prop :=
  ∀ (dst : Option Tmp) (type : TypeId) (pos : String) (after : Array Edge) (guard : Option (Nat × Bool)),
    (execOp a.eval ⟨dst, op, type, pos, after, guard⟩).run P w = .ok (.value v) w' ∨
    ((execOp a.eval ⟨dst, op, type, pos, after, guard⟩).run P w = .ok .skip w' ∧ v = undef)

/-- what a conversion to a number's kind comes to, whatever the source -/
theorem conv_ii {src dst : TypeId} {ds : TypeDesc} {q q' : IntKind} {n : Int} (hs : P.underlying src = some ds) (hd : P.underlying dst = some (.int q)) (w : World) :
    (convert src dst (.int q' n)).run P w = (Conv.intToInt q n).run P w := by
  cases ds <;> simp only [convert, Sem.run_bind, run_underlying hs, run_underlying hd, Result.andThen_ok]
theorem conv_if {src dst : TypeId} {ds : TypeDesc} {q : FloatKind} {q' : IntKind} {n : Int} (hs : P.underlying src = some ds) (hd : P.underlying dst = some (.float q)) (w : World) :
    (convert src dst (.int q' n)).run P w = (Conv.intToFloat q n).run P w := by
  cases ds <;> simp only [convert, Sem.run_bind, run_underlying hs, run_underlying hd, Result.andThen_ok]
theorem conv_fi {src dst : TypeId} {ds : TypeDesc} {q : IntKind} {s : FloatKind} {b : Nat} (hs : P.underlying src = some ds) (hd : P.underlying dst = some (.int q)) (w : World) :
    (convert src dst (.float s b)).run P w = (Conv.floatToInt s b q).run P w := by
  cases ds <;> simp only [convert, Sem.run_bind, run_underlying hs, run_underlying hd, Result.andThen_ok]
theorem conv_ff {src dst : TypeId} {ds : TypeDesc} {q s : FloatKind} {b : Nat} (hs : P.underlying src = some ds) (hd : P.underlying dst = some (.float q)) (w : World) :
    (convert src dst (.float s b)).run P w = (Conv.floatToFloat s b q).run P w := by
  cases ds <;> simp only [convert, Sem.run_bind, run_underlying hs, run_underlying hd, Result.andThen_ok]
theorem conv_ss {src dst : TypeId} {ds : TypeDesc} {s : ByteArray} (hs : P.underlying src = some ds) (hd : P.underlying dst = some .string) (w : World) :
    (convert src dst (.string s)).run P w = .ok (.string s) w := by
  cases ds <;> simp only [convert, Sem.run_bind, run_underlying hs, run_underlying hd, Result.andThen_ok, Sem.run_pure]

theorem TyOk.und {t : TypeId} {i : TI ieee} (h : TyOk P t i) : ∃ d, P.underlying t = some d := by
  have := h.kind
  cases hk : i.kind <;> rw [hk] at this <;> simp only [KOk] at this
  all_goals first
    | exact ⟨_, this⟩
    | (obtain ⟨e, this⟩ := this; exact ⟨_, this⟩)
    | (obtain ⟨e, this, _⟩ := this; exact ⟨_, this⟩)
    | (obtain ⟨e, f, g, this⟩ := this; exact ⟨_, this⟩)

theorem aconv_sound {γ : Gam} {src dst : TypeId} {is id : TI ieee} (hs : TyOk P src is) (hd : TyOk P dst id) {x : A} {vx : Value} (hx : VRel γ x vx)
    {k : A → R ieee} {r : A × Heap ieee} (h : aconv id.kind x k = some r) (w : World) :
    ∃ av v w', k av = some r ∧ (convert src dst vx).run P w = .ok v w' ∧ VRel γ av v ∧ Drawn w w' := by
  obtain ⟨ds, hds⟩ := hs.und
  have hkd := hd.kind
  unfold aconv at h
  split at h
  · rename_i q q' n hq
    rw [hq] at hkd
    have e : vx = .int q' n := hx
    subst e
    exact ⟨_, .int q (q.wrap n), w, h, conv_ii hds hkd w, rfl, Drawn.refl w⟩
  · rename_i q' n hq
    rw [hq] at hkd
    have e : vx = .int q' n := hx
    subst e
    exact ⟨_, .float .f32 (FloatKind.f32.nearest n), w, h, conv_if hds hkd w, ⟨_, rfl, (toW_nearest _ n).symm⟩, Drawn.refl w⟩
  · rename_i q' n hq
    rw [hq] at hkd
    have e : vx = .int q' n := hx
    subst e
    exact ⟨_, .float .f64 (FloatKind.f64.nearest n), w, h, conv_if hds hkd w, ⟨_, rfl, (toW_nearest _ n).symm⟩, Drawn.refl w⟩
  · rename_i x' hq
    rw [hq] at hkd
    obtain ⟨b, rfl, hb⟩ := hx
    exact ⟨_, .float .f32 b, w, h, conv_ff hds hkd w, ⟨_, rfl, hb⟩, Drawn.refl w⟩
  · rename_i x' hq
    rw [hq] at hkd
    obtain ⟨b, rfl, hb⟩ := hx
    exact ⟨_, .float .f64 b, w, h, conv_ff hds hkd w, ⟨_, rfl, hb⟩, Drawn.refl w⟩
  · rename_i x' hq
    rw [hq] at hkd
    obtain ⟨b, rfl, hb⟩ := hx
    obtain ⟨c', w', e1, e2, e3⟩ := run_fconv (P := P) .f32 .f64 (by decide) b (widen_ok b) w
    exact ⟨_, .float .f64 c', w', h, (conv_ff hds hkd w).trans e1, ⟨c', rfl, by rw [e2]; refine Eq.trans ?_ (toW_conv _ _ _).symm; rw [← hb]; exact (conv_can .f32 .f64 b).symm⟩, e3⟩
  · rename_i x' hq
    rw [hq] at hkd
    obtain ⟨b, rfl, hb⟩ := hx
    obtain ⟨h1, h2⟩ := gd_some h
    have hok : convOk .f64 .f32 b = true := by rw [← convOk_can, hb]; exact h1
    obtain ⟨c', w', e1, e2, e3⟩ := run_fconv (P := P) .f64 .f32 (by decide) b hok w
    exact ⟨_, .float .f32 c', w', h2, (conv_ff hds hkd w).trans e1, ⟨c', rfl, by rw [e2]; refine Eq.trans ?_ (toW_conv _ _ _).symm; rw [← hb]; exact (conv_can .f64 .f32 b).symm⟩, e3⟩
  · rename_i q x' hq
    rw [hq] at hkd
    obtain ⟨b, rfl, hb⟩ := hx
    obtain ⟨h1, h2⟩ := gd_some h
    have h1' : (floatToIntVal .f32 b q).isSome = true := by rw [← f2i_can, hb]; exact h1
    obtain ⟨n, hn⟩ := Option.isSome_iff_exists.1 h1'
    have hval : ieee.s2i q x' = n := by
      show (floatToIntVal .f32 x'.1 q).getD 0 = n
      rw [← hb, f2i_can, hn]; rfl
    exact ⟨_, .int q n, w, h2, (conv_fi hds hkd w).trans (run_f2i .f32 b q n hn w), by rw [hval]; rfl, Drawn.refl w⟩
  · rename_i s hq
    rw [hq] at hkd
    have e : vx = .string s := hx
    subst e
    exact ⟨_, .string s, w, h, conv_ss hds hkd w, rfl, Drawn.refl w⟩
  · cases h

/-! a variable is written -/
/-- the cells of a value -/
theorem cells_rel {γ : Gam} {a : A} {v : Value} (h : VRel γ a v) (h1 : a.oneV = true) : L2 (SRel γ) a.cells v.cells.toList := by
  have key : SRel γ a v → a.cells = [a] → L2 (SRel γ) a.cells v.cells.toList := by
    intro hs hc
    have hone := hs.one
    have e : v.cells = #[v] := by cases v <;> first | rfl | simp [Value.oneCell'] at hone
    rw [hc, e]
    exact L2.cons hs (L2.nil _)
  cases a with
  | agg cs =>
    obtain ⟨vs, rfl, hl⟩ := h
    exact hl.mono fun _ _ hs => hs.mono (Sub.nil γ)
  | tup cs => simp [AV.oneV, AV.one] at h1
  | undef => simp [AV.oneV, AV.one] at h1
  | any => simp [AV.oneV, AV.one] at h1
  | _ => exact key h rfl

/-- and without addresses -/
theorem cells_flat {γ : Gam} {a : A} {v : Value} (h : VRel γ a v) (h1 : a.oneV = true) (h2 : a.flatV = true) : L2 (SRel []) a.cells v.cells.toList := by
  cases ha : a with
  | agg cs =>
    subst ha
    obtain ⟨vs, rfl, hl⟩ := h
    exact hl
  | _ =>
    rw [← ha]
    have hc : a.cells = [a] := by rw [ha]; rfl
    have hfl : a.flat = true := by rw [ha] at h2 ⊢; exact h2
    have := cells_rel h h1
    rw [hc] at this ⊢
    exact ⟨this.1, fun i b u hb hu => (this.2 i b u hb hu).flat (by
      cases i with
      | zero => simp at hb; subst hb; exact hfl
      | succ i => simp at hb)⟩

theorem store_sound {t : TypeId} {i : TI ieee} (ht : TyOk P t i) {w0 w : World} {S : Nat → Prop} {γ : Gam} {h : Heap ieee} (inv : Inv w0 S γ h w) {b off : Nat} {fl : Bool} {cs cs' : List A} {rf : Ref}
    (hb : h[b]? = some (.live true fl cs)) (hg : γ[b]? = some rf) {ns : List A} {v : Value} (hv : L2 (SRel γ) ns v.cells.toList) (hsz : ns.length = i.size)
    (hfit : off + ns.length ≤ cs.length) (hcs : cs' = cs.take off ++ (ns ++ cs.drop (off + ns.length))) (hflat : fl = false ∨ L2 (SRel []) ns v.cells.toList) :
    ∃ w', (storeVar t ⟨rf.block, rf.base + off, none⟩ v).run P w = .ok () w' ∧ Inv w0 S γ (h.set b (.live true fl cs')) w' := by
  obtain ⟨cur, T, fr, h1, h2, h3, h4, h5⟩ := (inv.hr.blk b rf true fl cs hg hb).ex
  have hfr := h5 rfl
  subst hfr
  have hone : ∀ u ∈ v.cells.toList, u.oneCell' = true := by
    intro u hu
    obtain ⟨j, hj⟩ := List.getElem?_of_mem hu
    have hlt : j < ns.length := by rw [hv.1]; exact (List.getElem?_eq_some_iff.1 hj).1
    exact (hv.2 j ns[j] u (List.getElem?_eq_getElem hlt) hj).one
  have hvl : v.cells.toList.length = ns.length := hv.1.symm
  have hst := run_storeCells_at P rf.block (rf.base + off) T v.cells.toList 0 cur w h1 (by rw [hvl]; omega) hone
  simp only [Nat.add_zero, hvl] at hst
  refine ⟨w.setRow rf.block (cur.toList.take (rf.base + off) ++ v.cells.toList ++ cur.toList.drop (rf.base + off + ns.length)).toArray, ?_, ?_⟩
  · have hsize : v.cells.size = i.size := by rw [← hsz, ← hvl]; simp
    simp only [storeVar, Sem.run_bind, ht.run_sizeOf, Result.andThen_ok, hsize, ne_eq, not_true_eq_false, if_false]
    exact hst
  · refine inv.write hb hg h1 ?_ ?_ ?_
    · simp only [List.size_toArray, List.length_append, List.length_take, List.length_drop, hvl]
      have : cur.toList.length = cur.size := by simp
      omega
    · subst hcs
      simp only [List.length_append, List.length_take, List.length_drop]
      omega
    · intro j c hc
      subst hcs
      have hcl : cur.toList.length = cur.size := by simp
      -- the three pieces
      by_cases hj1 : j < off
      · rw [List.getElem?_append_left (by simp; omega), List.getElem?_take, if_pos hj1] at hc
        obtain ⟨u, hu, hs⟩ := h4 j c hc
        refine ⟨u, ?_, hs⟩
        rw [List.getElem?_toArray, List.append_assoc, List.getElem?_append_left (by simp; omega), List.getElem?_take, if_pos (by omega)]
        simpa using hu
      · rw [List.getElem?_append_right (by simp; omega)] at hc
        have hto : (cs.take off).length = off := by simp; omega
        rw [hto] at hc
        by_cases hj2 : j - off < ns.length
        · rw [List.getElem?_append_left hj2] at hc
          obtain ⟨u, hu, hs⟩ := hv.get hc
          refine ⟨u, ?_, ?_⟩
          · rw [List.getElem?_toArray, List.append_assoc, List.getElem?_append_right (by simp; omega)]
            have : (cur.toList.take (rf.base + off)).length = rf.base + off := by simp; omega
            rw [this]
            have e : rf.base + j - (rf.base + off) = j - off := by omega
            rw [e, List.getElem?_append_left (by rw [hvl]; exact hj2)]
            exact hu
          · cases fl with
            | false => exact hs
            | true =>
              have hall := hflat.resolve_left (by simp)
              exact hall.2 _ c u hc hu
        · rw [List.getElem?_append_right (by omega), List.getElem?_drop] at hc
          have e1 : off + ns.length + (j - off - ns.length) = j := by omega
          rw [e1] at hc
          obtain ⟨u, hu, hs⟩ := h4 j c hc
          refine ⟨u, ?_, hs⟩
          rw [List.getElem?_toArray, List.append_assoc, List.getElem?_append_right (by simp; omega)]
          have : (cur.toList.take (rf.base + off)).length = rf.base + off := by simp; omega
          rw [this, List.getElem?_append_right (by rw [hvl]; omega), List.getElem?_drop, hvl]
          have e : rf.base + off + ns.length + (rf.base + j - (rf.base + off) - ns.length) = rf.base + j := by omega
          rw [e]
          simpa using hu

end
end Go.Ab
