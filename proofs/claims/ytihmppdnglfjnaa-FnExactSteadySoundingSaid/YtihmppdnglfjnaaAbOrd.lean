/- Own work: a part of the library under the claims of this seat. -/
/-
A region whose order is drawn: whatever order the edges allow gives what the order of the text gives, where the pairs that may come in either order commute.
-/
import Derived.Test.YtihmppdnglfjnaaAbDet
namespace Go.Ab
open Go.RowKit

section
variable {P : Program} {c : Cx ieee}

/-! an operation looks at its operands alone -/
theorem ev_agree {e e2 : Env ieee} {l : List Operand} (h : ∀ t ∈ tmpsOf l, e t = e2 t) : ∀ x ∈ l, ev e x = ev e2 x := by
  intro x hx
  cases x with
  | tmp t =>
    refine h t ?_
    simp only [tmpsOf, List.mem_flatMap]
    exact ⟨_, hx, by simp⟩
  | _ => rfl

theorem fillP_agree {e e2 : Env ieee} (t : TI ieee) : ∀ (ps : List (Nat × Operand)) (cs : List A) (k : List A → R ieee), (∀ p ∈ ps, ev e p.2 = ev e2 p.2) → fillP c t ps e cs k = fillP c t ps e2 cs k
  | [], _, _, _ => rfl
  | p :: ps, cs, k, h => by
    show fillAt c t p.1 (fun off n => gd ((ev e p.2).oneV && (ev e p.2).flatV) (wrA cs off n (ev e p.2).cells fun cs => fillP c t ps e cs k)) =
      fillAt c t p.1 (fun off n => gd ((ev e2 p.2).oneV && (ev e2 p.2).flatV) (wrA cs off n (ev e2 p.2).cells fun cs => fillP c t ps e2 cs k))
    rw [h p (by simp)]
    congr 1
    funext off n
    congr 2
    funext cs
    exact fillP_agree t ps cs k (fun q hq => h q (by simp [hq]))

theorem exec_agree {op : Op} {e e2 : Env ieee} (hag : ∀ t ∈ tmpsOf op.operands.toList, e t = e2 t) (h : Heap ieee) (k : A → Heap ieee → R ieee) : exec c op e h k = exec c op e2 h k := by
  have H := ev_agree hag
  cases op with
  | move x => simp only [exec]; rw [H x (by simp [Op.operands])]
  | assign x => simp only [exec]; rw [H x (by simp [Op.operands])]
  | pick q x y => simp only [exec]; rw [H q (by simp [Op.operands]), H x (by simp [Op.operands]), H y (by simp [Op.operands])]
  | box t x => simp only [exec]; rw [H x (by simp [Op.operands])]
  | alloc t => rfl
  | build t ps =>
    simp only [exec]
    congr 1
    funext ti
    congr 1
    exact fillP_agree ti ps.toList ti.zero _ (fun p hp => H p.2 (by simp [Op.operands]; exact ⟨p.1, by simpa using hp⟩))
  | load t x => simp only [exec]; rw [H x (by simp [Op.operands])]
  | store t x y => simp only [exec]; rw [H x (by simp [Op.operands]), H y (by simp [Op.operands])]
  | nilCheck x => simp only [exec]; rw [H x (by simp [Op.operands])]
  | binOp b t x y u => simp only [exec]; rw [H x (by simp [Op.operands]), H y (by simp [Op.operands])]
  | unOp u t x => simp only [exec]; rw [H x (by simp [Op.operands])]
  | convert s t x => simp only [exec]; rw [H x (by simp [Op.operands])]
  | makeFunc fn first cap =>
    cases fn with
    | func f =>
      simp only [exec]
      have : cap.toList.map (ev e) = cap.toList.map (ev e2) := List.map_congr_left (fun x hx => H x (by simp [Op.operands]; exact .inr (by simpa using hx)))
      rw [this]
    | _ => rfl
  | fieldAddr t x f => simp only [exec]; rw [H x (by simp [Op.operands])]
  | field t x f => simp only [exec]; rw [H x (by simp [Op.operands])]
  | indexAddr t x i => simp only [exec]; rw [H x (by simp [Op.operands]), H i (by simp [Op.operands])]
  | index t x i => simp only [exec]; rw [H x (by simp [Op.operands]), H i (by simp [Op.operands])]
  | extract x i => simp only [exec]; rw [H x (by simp [Op.operands])]
  | buildSlice t n ps =>
    simp only [exec]
    congr 1
    funext ti
    split
    · congr 1
      funext et
      congr 1
      exact fillP_agree ti ps.toList _ _ (fun p hp => H p.2 (by simp [Op.operands]; exact ⟨p.1, by simpa using hp⟩))
    · rfl
  | makeSlice t x y => simp only [exec]; rw [H x (by simp [Op.operands]), H y (by simp [Op.operands])]
  | slice t x lo hi mx =>
    have ho : ∀ (z : Option Operand) (d : Nat) (k : Nat → R ieee), (∀ y, z = some y → ev e y = ev e2 y) → opt e z d k = opt e2 z d k := by
      intro z d k hz
      cases z with
      | none => rfl
      | some y => unfold opt; dsimp only; rw [hz y rfl]
    have h1 : ∀ (d : Nat) (k : Nat → R ieee), opt e lo d k = opt e2 lo d k := fun d k => ho lo d k fun y hy => H y (by subst hy; simp [Op.operands])
    have h2 : ∀ (d : Nat) (k : Nat → R ieee), opt e hi d k = opt e2 hi d k := fun d k => ho hi d k fun y hy => H y (by subst hy; simp [Op.operands])
    simp only [exec, sliceV]
    rw [H x (by simp [Op.operands])]
    simp only [h1, h2]
  | call q =>
    simp only [exec]
    have hargs : q.args.toList.map (ev e) = q.args.toList.map (ev e2) := List.map_congr_left (fun x hx => H x (by
      simp only [Op.operands, Call.operands, Array.toList_append, List.mem_append]
      exact .inr hx))
    rw [hargs]
    cases hq : q.callee with
    | value f =>
      dsimp only
      rw [H f (by simp only [Op.operands, Call.operands, hq, Array.toList_append, List.mem_append]; exact .inl (by simp))]
    | _ => rfl
  | _ => rfl

/-! the classes -/
theorem builtin_heap {b : Builtin} {ts : List TypeId} {args : List A} (h : Heap ieee) (k : A → Heap ieee → R ieee) : builtin c b ts args h k = builtin c b ts args [] fun v _ => k v h := by
  unfold builtin
  split
  · split
    · congr 1
    · rfl
  all_goals rfl

theorem bltn_heap {b : Builtin} (h1 : b ≠ .append) (h2 : b ≠ .copy) {ts : List TypeId} {args : List A} (h : Heap ieee) (k : A → Heap ieee → R ieee) : bltn c b ts args h k = builtin c b ts args [] fun v _ => k v h := by
  unfold bltn
  split
  · exact (h1 rfl).elim
  · exact (h2 rfl).elim
  · exact builtin_heap h k

theorem out_builtin {b : Builtin} {ts : List TypeId} {args : List A} : Out1 (fun k : A → R ieee => builtin c b ts args [] fun v _ => k v) := by
  unfold builtin
  split
  · split
    · rename_i t
      refine (out_withTy (c := c) t).bind (G := fun (ti : TI ieee) (k : A → R ieee) => _) (fun ti => ?_)
      split <;> first | exact Out1.pure _ | exact Out1.none
    · exact Out1.none
  all_goals first | exact Out1.pure _ | exact Out1.gd _ (Out1.pure _) | exact Out1.none

theorem c0_of {op : Op} {e : Env ieee} {F : (A → R ieee) → R ieee} (hF : Out1 F) (he : ∀ h k, exec c op e h k = F fun v => k v h) {h : Heap ieee} {k : A → Heap ieee → R ieee} {r : A × Heap ieee}
    (hx : exec c op e h k = some r) : ∃ v, k v h = some r ∧ ∀ h2 k', exec c op e h2 k' = k' v h2 := by
  rw [he] at hx
  obtain ⟨v, h1, h2⟩ := hF _ _ hx
  exact ⟨v, h1, fun h2' k' => by rw [he]; exact h2 _⟩

theorem exec_c0 {op : Op} {e : Env ieee} {h : Heap ieee} {k : A → Heap ieee → R ieee} {r : A × Heap ieee} (h0 : cls c op = 0) (hx : exec c op e h k = some r) :
    ∃ v, k v h = some r ∧ ∀ h2 k', exec c op e h2 k' = k' v h2 := by
  cases op with
  | move x => exact c0_of (Out1.pure (ev e x)) (fun _ _ => rfl) hx
  | assign x => exact c0_of (Out1.pure (ev e x)) (fun _ _ => rfl) hx
  | pick q x y =>
    cases hq : ev e q with
    | bool t => exact c0_of (Out1.pure (cond t (ev e x) (ev e y))) (fun h k => by simp only [exec, hq]) hx
    | _ => simp [exec, hq] at hx
  | build t ps =>
    refine c0_of (F := fun k => withTy c t fun ti => gd (fieldsOk c ti) (fillP c ti ps.toList e ti.zero fun cs => k (.agg cs))) ?_ (fun _ _ => rfl) hx
    exact (out_withTy (c := c) t).bind (G := fun ti (k : A → R ieee) => _) fun ti => Out1.gd _ ((out_fillP ti e ps.toList ti.zero).bind (G := fun cs (k : A → R ieee) => _) fun cs => Out1.pure _)
  | nilCheck x =>
    cases hq : ev e x with
    | ptr b i => exact c0_of (Out1.pure (.ptr b i)) (fun h k => by simp only [exec, hq]) hx
    | clo f cap => exact c0_of (Out1.pure (.clo f cap)) (fun h k => by simp only [exec, hq]) hx
    | _ => simp [exec, hq] at hx
  | binOp b t x y u => exact c0_of (Out1.gd _ (out_abin b (ev e x) (ev e y))) (fun _ _ => rfl) hx
  | unOp u t x => exact c0_of (out_aun u (ev e x)) (fun _ _ => rfl) hx
  | convert s t x =>
    refine c0_of (F := fun k => withTy c s fun _ => withTy c t fun ti => aconv ti.kind (ev e x) k) ?_ (fun _ _ => rfl) hx
    exact (out_withTy (c := c) s).bind (G := fun _ (k : A → R ieee) => _) fun _ => (out_withTy (c := c) t).bind (G := fun ti (k : A → R ieee) => _) fun ti => out_aconv _ _
  | makeFunc fn first cap =>
    cases fn with
    | func f =>
      refine c0_of (F := fun k => gd first.toList.isEmpty (capsOf (cap.toList.map (ev e)) fun l => k (.clo f l))) ?_ (fun _ _ => rfl) hx
      exact Out1.gd _ ((out_capsOf (cap.toList.map (ev e)) []).bind (G := fun l (k : A → R ieee) => k (.clo f l)) fun l => Out1.pure _)
    | _ => cases hx
  | fieldAddr t x f =>
    cases hq : ev e x with
    | ptr b i =>
      refine c0_of (F := fun k => withTy c t fun ti => fieldOf ti f fun off ft => withTy c ft fun fi => gd (!(Nat.beq fi.size 0)) (k (.ptr b (i + off)))) ?_ (fun h k => by simp only [exec, hq]) hx
      exact (out_withTy (c := c) t).bind (G := fun ti (k : A → R ieee) => _) fun ti => (out_fieldOf ti f).bind (G := fun (p : Nat × TypeId) (k : A → R ieee) => withTy c p.2 fun fi => gd (!(Nat.beq fi.size 0)) (k (.ptr b (i + p.1))))
        fun p => (out_withTy (c := c) p.2).bind (G := fun (fi : TI ieee) (k : A → R ieee) => _) fun fi => Out1.gd _ (Out1.pure _)
    | _ => simp [exec, hq, withTy] at hx <;> (split at hx <;> cases hx)
  | field t x f =>
    cases hq : ev e x with
    | agg cs =>
      refine c0_of (F := fun k => withTy c t fun ti => fieldOf ti f fun off ft => withTy c ft fun fi => part fi cs off k) ?_ (fun h k => by simp only [exec, hq]) hx
      exact (out_withTy (c := c) t).bind (G := fun ti (k : A → R ieee) => _) fun ti => (out_fieldOf ti f).bind (G := fun (p : Nat × TypeId) (k : A → R ieee) => withTy c p.2 fun fi => part fi cs p.1 k)
        fun p => (out_withTy (c := c) p.2).bind (G := fun (fi : TI ieee) (k : A → R ieee) => _) fun fi => out_part fi cs p.1
    | _ => simp [exec, hq, withTy] at hx <;> (split at hx <;> cases hx)
  | indexAddr t x i =>
    refine c0_of (F := fun k => withTy c t fun ti => idxA c ti (ev e x) (ev e i) k) ?_ (fun _ _ => rfl) hx
    refine (out_withTy (c := c) t).bind (G := fun ti (k : A → R ieee) => idxA c ti (ev e x) (ev e i) k) fun ti => ?_
    unfold idxA
    split
    · exact (out_withTy (c := c) _).bind (G := fun (et : TI ieee) (k : A → R ieee) => _) fun et => (out_inb _ _).bind (G := fun m (k : A → R ieee) => _) fun m => Out1.pure _
    · exact (out_withTy (c := c) _).bind (G := fun (et : TI ieee) (k : A → R ieee) => _) fun et => Out1.gd _ ((out_inb _ _).bind (G := fun m (k : A → R ieee) => _) fun m => Out1.pure _)
    · exact Out1.none
  | index t x i =>
    refine c0_of (F := fun k => withTy c t fun ti => idxV c ti (ev e x) (ev e i) k) ?_ (fun _ _ => rfl) hx
    refine (out_withTy (c := c) t).bind (G := fun ti (k : A → R ieee) => idxV c ti (ev e x) (ev e i) k) fun ti => ?_
    unfold idxV
    split
    · exact (out_withTy (c := c) _).bind (G := fun (et : TI ieee) (k : A → R ieee) => _) fun et => (out_inb _ _).bind (G := fun m (k : A → R ieee) => _) fun m => out_part _ _ _
    · exact (out_inb _ _).bind (G := fun m (k : A → R ieee) => _) fun m => Out1.pure _
    · exact Out1.none
  | extract x i =>
    cases hq : ev e x with
    | tup vs =>
      cases hv : vs[i]? with
      | some v => exact c0_of (Out1.gd v.noTup (Out1.pure v)) (fun h k => by simp only [exec, hq, hv]) hx
      | none => simp [exec, hq, hv] at hx
    | _ => simp [exec, hq] at hx
  | call q =>
    cases hq : q.callee with
    | value f =>
      cases f with
      | func f =>
        cases hf : c.fn f with
        | none => simp [cls, hq, hf] at h0
        | some cal =>
          cases cal with
          | pure m => exact c0_of (out_run (m (q.args.toList.map (ev e) ++ []))) (fun h k => by simp only [exec, hq, ev, call, hf]; rfl) hx
          | ro m => simp [cls, hq, hf] at h0
          | rw m => simp [cls, hq, hf] at h0
      | _ => simp [cls, hq] at h0
    | builtin b => exact c0_of (out_builtin (c := c) (b := b) (ts := q.argTypes.toList) (args := q.args.toList.map (ev e))) (fun h k => by simp only [exec, hq]; exact bltn_heap (by intro e; subst e; simp [cls, hq] at h0) (by intro e; subst e; simp [cls, hq] at h0) h k) hx
    | invoke f m => simp [cls, hq] at h0
  | _ => simp [cls] at h0

theorem exec_c1 {op : Op} {e : Env ieee} {h : Heap ieee} {k : A → Heap ieee → R ieee} {r : A × Heap ieee} (h1 : cls c op = 1) (hx : exec c op e h k = some r) :
    ∃ v, k v h = some r ∧ (∀ k', exec c op e h k' = k' v h) ∧ ∀ b k', exec c op e (h ++ [b]) k' = k' v (h ++ [b]) := by
  have key : ∀ (F : Heap ieee → (A → R ieee) → R ieee), Out2 F → (∀ h k, exec c op e h k = F h fun v => k v h) →
      ∃ v, k v h = some r ∧ (∀ k', exec c op e h k' = k' v h) ∧ ∀ b k', exec c op e (h ++ [b]) k' = k' v (h ++ [b]) := by
    intro F hF he
    rw [he] at hx
    obtain ⟨v, h1, h2, h3⟩ := hF _ _ _ hx
    exact ⟨v, h1, fun k' => by rw [he]; exact h2 _, fun b k' => by rw [he]; exact h3 b _⟩
  cases op with
  | load t x =>
    cases hq : ev e x with
    | ptr b i => exact key (fun h k => withTy c t fun ti => ldv ti h b i k) ((Out2.of1 (out_withTy (c := c) t)).bind (G := fun ti h (k : A → R ieee) => ldv ti h b i k) fun ti => out2_ldv ti b i) (fun h k => by simp only [exec, hq])
    | _ => simp [exec, hq, withTy] at hx <;> (split at hx <;> cases hx)
  | slice t x lo hi mx =>
    refine key (fun h k => sliceV c t (ev e x) lo hi mx e h k) ?_ (fun _ _ => rfl)
    unfold sliceV
    refine Out2.gd _ ((Out2.of1 (out_withTy (c := c) t)).bind (G := fun ti h (k : A → R ieee) => _) fun ti => ?_)
    split
    · rename_i n el b i _ _
      refine (Out2.of1 (out_withTy (c := c) _)).bind (G := fun et h (k : A → R ieee) => _) fun et => ?_
      refine (Out2.of1 (out_opt lo 0)).bind (G := fun l h (k : A → R ieee) => _) fun l => ?_
      refine (Out2.of1 (out_opt hi _)).bind (G := fun u h (k : A → R ieee) => _) fun u => ?_
      refine Out2.gd _ ?_
      exact (out2_hget b).bind (G := fun (p : Bool × List A) _ (k : A → R ieee) => gd (Nat.ble (i + n * et.size) p.2.length && Nat.ble n 9223372036854775807) (k (.slice b (i + l * et.size) (u - l) et.size))) fun p => Out2.gd _ (Out2.of1 (Out1.pure _))
    · refine (Out2.of1 (out_withTy (c := c) _)).bind (G := fun et h (k : A → R ieee) => _) fun et => ?_
      refine (Out2.of1 (out_opt lo 0)).bind (G := fun l h (k : A → R ieee) => _) fun l => ?_
      refine (Out2.of1 (out_opt hi _)).bind (G := fun u h (k : A → R ieee) => _) fun u => ?_
      exact Out2.gd _ (Out2.of1 (Out1.pure _))
    · exact Out2.of1 Out1.none
  | call q =>
    cases hq : q.callee with
    | value f =>
      cases f with
      | func f =>
        cases hf : c.fn f with
        | none => simp [cls, hq, hf] at h1
        | some cal =>
          cases cal with
          | pure m => simp [cls, hq, hf] at h1
          | ro m =>
            refine key (fun h k => gd ((q.args.toList.map (ev e) ++ []).all AV.noTup) (subHeap h (roots1 [] (q.args.toList.map (ev e) ++ [])) fun hs => (m ((q.args.toList.map (ev e) ++ []).map (AV.ren1 (pos (roots1 [] (q.args.toList.map (ev e) ++ []))))) hs).run k)) ?_
              (fun h k => by simp only [exec, hq, ev, call, hf]; rfl)
            exact Out2.gd _ ((out2_subHeap _ []).bind (G := fun hs (_ : Heap ieee) (k : A → R ieee) => _) fun hs => Out2.of1 (out_run _))
          | rw m => simp [cls, hq, hf] at h1
      | _ => simp [cls, hq] at h1
    | builtin b => cases b <;> simp [cls, hq] at h1
    | invoke f m => simp [cls, hq] at h1
  | _ => simp [cls] at h1

theorem exec_c2_build {t : TypeId} {n : Nat} {ps : Array (Nat × Operand)} {e : Env ieee} {h : Heap ieee} {k : A → Heap ieee → R ieee} {r : A × Heap ieee} (hx : exec c (.buildSlice t n ps) e h k = some r) :
    ∃ v b, k v (h ++ [b]) = some r ∧ ∀ k', exec c (.buildSlice t n ps) e h k' = k' v (h ++ [b]) := by
  have ho : Out1 (fun k : A × Blk ieee → R ieee => exec c (.buildSlice t n ps) e h fun v h' => k (v, (h'[h.length]?).getD .dead)) := by
    simp only [exec]
    refine (out_withTy (c := c) t).bind (G := fun ti (k : A × Blk ieee → R ieee) => _) fun ti => ?_
    split
    · refine (out_withTy (c := c) _).bind (G := fun et (k : A × Blk ieee → R ieee) => _) fun et => ?_
      refine Out1.gd _ ?_
      refine (out_fillP ti e ps.toList _).bind (G := fun cs (k : A × Blk ieee → R ieee) => _) fun cs => ?_
      exact Out1.gd _ (Out1.pure _)
    · exact Out1.none
  have hk : ∀ k' : A → Heap ieee → R ieee, exec c (.buildSlice t n ps) e h k' = exec c (.buildSlice t n ps) e h fun v h' => k' v (h ++ [(h'[h.length]?).getD .dead]) := by
    intro k'
    simp only [exec]
    unfold withTy
    split
    · dsimp only
      split
      · split
        · congr 1
          congr 1
          funext cs
          congr 1
          unfold mkSlice
          simp
        · rfl
      · rfl
    · rfl
  rw [hk] at hx
  obtain ⟨⟨v, b⟩, g1, g2⟩ := ho (fun p => k p.1 (h ++ [p.2])) r hx
  exact ⟨v, b, g1, fun k' => (hk k').trans (g2 fun p => k' p.1 (h ++ [p.2]))⟩

theorem exec_c2 {op : Op} {e : Env ieee} {h : Heap ieee} {k : A → Heap ieee → R ieee} {r : A × Heap ieee} (h2 : cls c op = 2) (hx : exec c op e h k = some r) :
    ∃ v b, k v (h ++ [b]) = some r ∧ ∀ k', exec c op e h k' = k' v (h ++ [b]) := by
  cases op with
  | box t x =>
    simp only [exec] at hx
    obtain ⟨ti, g0, g3⟩ := withTy_some hx
    obtain ⟨g1, g2⟩ := gd_some g3
    exact ⟨_, _, g2, fun k' => by simp only [exec, withTy]; rw [g0]; dsimp only; rw [g1]; rfl⟩
  | alloc t =>
    simp only [exec] at hx
    obtain ⟨ti, g1, g2⟩ := withTy_some hx
    exact ⟨_, _, g2, fun k' => by simp only [exec, withTy]; rw [g1]; rfl⟩
  | buildSlice t n ps => exact exec_c2_build hx
  | makeSlice t x y =>
    simp only [exec] at hx
    obtain ⟨ti, g1, g2⟩ := withTy_some hx
    split at g2
    · rename_i el q n q' m hk hq1 hq2
      obtain ⟨et, g3, g4⟩ := withTy_some g2
      obtain ⟨g5, g6⟩ := gd_some g4
      exact ⟨_, _, g6, fun k' => by simp only [exec, withTy]; rw [g1]; dsimp only; rw [hk, hq1, hq2]; dsimp only; rw [g3]; dsimp only; rw [g5]; rfl⟩
    · cases g2
  | call q =>
    cases hq : q.callee with
    | value f =>
      cases f with
      | func f =>
        cases hf : c.fn f with
        | none => simp [cls, hq, hf] at h2
        | some cal => cases cal <;> simp [cls, hq, hf] at h2
      | _ => simp [cls, hq] at h2
    | builtin b => cases b <;> simp [cls, hq] at h2
    | invoke f m => simp [cls, hq] at h2
  | _ => simp [cls] at h2

theorem call_det {g : FuncId} {args : List A} {h : Heap ieee} : Out1 (fun k : A × Heap ieee → R ieee => call c g args h fun v h' => k (v, h')) := by
  unfold call
  split
  · exact Out1.none
  · rename_i m hf
    exact (out_run (m args)).bind (G := fun v (k : A × Heap ieee → R ieee) => k (v, h)) fun v => Out1.pure _
  · rename_i m hf
    exact Out1.gd _ ((out_subHeap h (roots1 [] args) []).bind (G := fun hs (k : A × Heap ieee → R ieee) => _) fun hs => (out_run _).bind (G := fun v (k : A × Heap ieee → R ieee) => k (v, h)) fun v => Out1.pure _)
  · rename_i m hf
    exact Out1.gd _ ((out_subHeap h (roots1 [] args) []).bind (G := fun hs (k : A × Heap ieee → R ieee) => _) fun hs => (out_run _).bind (G := fun (x : A × Heap ieee) (k : A × Heap ieee → R ieee) => k (x.1.ren (backIdx h (roots1 [] args)), backHeap h (roots1 [] args) x.2)) fun v => Out1.pure _)

theorem exec_det {op : Op} {e : Env ieee} {h : Heap ieee} {k : A → Heap ieee → R ieee} {r : A × Heap ieee} (hx : exec c op e h k = some r) :
    ∃ v h', k v h' = some r ∧ ∀ k', exec c op e h k' = k' v h' := by
  by_cases h0 : cls c op = 0
  · obtain ⟨v, h1, h2⟩ := exec_c0 h0 hx
    exact ⟨v, h, h1, h2 h⟩
  by_cases h1 : cls c op = 1
  · obtain ⟨v, h2, h3, _⟩ := exec_c1 h1 hx
    exact ⟨v, h, h2, h3⟩
  by_cases h2 : cls c op = 2
  · obtain ⟨v, b, h3, h4⟩ := exec_c2 h2 hx
    exact ⟨v, _, h3, h4⟩
  cases op with
  | store t x y =>
    have ho : Out1 (fun k : A × Heap ieee → R ieee => exec c (.store t x y) e h fun v h' => k (v, h')) := by
      simp only [exec]
      refine (out_withTy (c := c) t).bind (G := fun ti (k : A × Heap ieee → R ieee) => _) fun ti => ?_
      split
      · rename_i b i hq
        unfold hmod
        split
        · rename_i wr fl cs hb
          refine Out1.gd _ ?_
          split
          · exact (out_wrA _ _ _ _).bind (G := fun cs' (k : A × Heap ieee → R ieee) => _) fun cs' => Out1.pure _
          · exact Out1.gd _ ((out_wr1 _ _ _).bind (G := fun cs' (k : A × Heap ieee → R ieee) => _) fun cs' => Out1.pure _)
        · exact Out1.none
      · exact Out1.none
    obtain ⟨⟨v, h'⟩, g1, g2⟩ := ho (fun p => k p.1 p.2) r hx
    exact ⟨v, h', g1, fun k' => g2 fun p => k' p.1 p.2⟩
  | call q =>
    have ho : Out1 (fun k : A × Heap ieee → R ieee => exec c (.call q) e h fun v h' => k (v, h')) := by
      simp only [exec]
      split
      · split
        · exact call_det
        · exact Out1.none
      · rename_i b hq
        unfold bltn
        split
        · exact out_appendS _ _ _
        · exact out_copyS _ _ _
        have := (out_builtin (c := c) (b := b) (ts := q.argTypes.toList) (args := q.args.toList.map (ev e))).bind (G := fun v (k : A × Heap ieee → R ieee) => k (v, h)) fun v => Out1.pure _
        intro k r hk
        obtain ⟨x, g1, g2⟩ := this k r ((builtin_heap _ _).symm.trans hk)
        exact ⟨x, g1, fun k' => (builtin_heap _ _).trans (g2 k')⟩
      · exact Out1.none
    obtain ⟨⟨v, h'⟩, g1, g2⟩ := ho (fun p => k p.1 p.2) r hx
    exact ⟨v, h', g1, fun k' => g2 fun p => k' p.1 p.2⟩
  | makeFunc fn first cap =>
    cases fn with
    | func f => exact (h0 rfl).elim
    | _ => cases hx
  | _ => first | (cases hx; done) | exact (h0 rfl).elim | exact (h1 rfl).elim | exact (h2 rfl).elim

end
end Go.Ab
