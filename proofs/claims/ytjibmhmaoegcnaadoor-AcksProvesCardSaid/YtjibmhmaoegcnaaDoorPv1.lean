/- Parts of a proof, joined by program: ProvesV, Few, Build. -/
import Derived.Test.YtjibmhmaoegcnaaDoorK12
import Derived.Maps.AppendAt
namespace Go.Proofs.YtjibmhmaoegcnaaDoor
open Go.RowKit Go.Shelf
set_option linter.unusedVariables false
theorem mem_goneL {es : List Ent} {x : Int × Ent} : x ∈ goneL es ↔ ∃ i : Nat, es[i]? = some x.2 ∧ x.2.gone = true ∧ x.1 = (i : Int) + 1 := by
  unfold goneL
  rw [List.mem_filterMap]
  constructor
  · rintro ⟨⟨e, i⟩, hp, h⟩
    have := List.mem_zipIdx_iff_getElem?.1 hp
    simp only at h
    split at h
    · rename_i hg
      simp only [Option.some.injEq] at h
      subst h
      exact ⟨i, this, hg, rfl⟩
    · cases h
  · rintro ⟨i, h1, h2, h3⟩
    refine ⟨(x.2, i), List.mem_zipIdx_iff_getElem?.2 h1, ?_⟩
    simp only
    rw [if_pos h2, ← h3]
theorem mem_wrong {fo st : Int} {l : List Ack} {ms : List Mem} {es : List Ent} {n : Int} : n ∈ wrongV fo st l ms es ↔ ∃ (i : Nat) (e : Ent), es[i]? = some e ∧ e.gone = true ∧ n = (i : Int) + 1 ∧ (e.k ≠ 4 ∨ leastV fo st l ms < n) := by
  unfold wrongV wrongG
  rw [List.mem_filterMap]
  constructor
  · rintro ⟨⟨m, e⟩, hp, h⟩
    obtain ⟨i, h1, h2, h3⟩ := mem_goneL.1 hp
    simp only at h h1 h2 h3
    split at h
    · rename_i hc
      simp only [Option.some.injEq] at h
      subst h
      exact ⟨i, e, h1, h2, h3, hc⟩
    · cases h
  · rintro ⟨i, e, h1, h2, h3, h4⟩
    exact ⟨(n, e), mem_goneL.2 ⟨i, h1, h2, h3⟩, by simp only; rw [if_pos h4]⟩
/-- Does an acknowledgement count for a member, above a number? -/
def cntB (fo st : Int) (m : Mem) (i : Int) (a : Ack) : Bool := decide (a.f = fo) && decide (a.s = st) && decide (a.d = m.d) && decide (i < a.u) && verifyB m.ver a.msg a.r a.g
theorem check_verify {a : Ack} {pub : Int} (h : ackCheckV a pub = 0) : verifyB pub a.msg a.r a.g = true := by
  have hf := check_formed h
  unfold ackCheckV at h
  rw [hf, if_pos rfl] at h
  cases hv : verifyB pub a.msg a.r a.g with
  | true => rfl
  | false => rw [hv] at h; simp at h
theorem proves_law {fo st : Int} {l : List Ack} {ms : List Mem} {es : List Ent} {k : Nat} {e : Ent} (he : es[k]? = some e) (hg : e.gone = true) (hw : ((k : Int) + 1) ∉ wrongV fo st l ms es) :
    e.k = 4 ∧ ms ≠ [] ∧ ∀ m ∈ ms, l.any (cntB fo st m k) = true := by
  have h : ¬ (e.k ≠ 4 ∨ leastV fo st l ms < (k : Int) + 1) := fun h => hw (mem_wrong.2 ⟨k, e, he, hg, rfl, h⟩)
  have h4 : e.k = 4 := Classical.byContradiction fun c => h (.inl c)
  have hl : (k : Int) + 1 ≤ leastV fo st l ms := by
    have := fun c => h (.inr c)
    omega
  have hm : ms ≠ [] := by
    rintro rfl
    have : leastV fo st l [] = 0 := rfl
    omega
  refine ⟨h4, hm, fun m hmm => ?_⟩
  have hu := (le_least fo st _ l ms hm).1 hl m hmm
  refine Classical.byContradiction fun hc => ?_
  have : upV fo st l m ≤ (k : Int) := (upV_le _ _ _ _ _).2 ⟨by omega, fun a ha h1 h2 h3 h4 => by
    refine Classical.byContradiction fun hn => hc (List.any_eq_true.2 ⟨a, ha, ?_⟩)
    unfold cntB
    rw [decide_eq_true h1, decide_eq_true h2, decide_eq_true h3, decide_eq_true (show (k : Int) < a.u by omega), check_verify h4]
    rfl⟩
  omega
/-- Block b is a map of flags of at most n entries; F is what it holds. -/
structure MapB (w : World) (b n : Nat) (F : Int → Bool) : Prop where
  ex : ∃ D : DataW Value, w.ownsMap Tryd.prog 3 rdHeld b n D ∧ Maps.IsMap D ∧ ∀ k, i64ok k → D.atKey (.int .i64 k) (.held (.bool false)) = .held (.bool (F k))
theorem MapB.made (w : World) : MapB (w.alloc (.map #[] 0)) w.heap.size 0 (fun _ => false) :=
  ⟨.map [], World.ownsMap_made w _ _ _, Maps.isMap_empty, fun k _ => rfl⟩
theorem MapB.kept {w w' : World} {b n : Nat} {F : Int → Bool} (h : MapB w b n F) {row : Option Nat} (hg : Gr w row w') (hne : some b ≠ row) : MapB w' b n F := by
  obtain ⟨D, h1, h2, h3⟩ := h.ex
  exact ⟨D, h1.kept hg hne, h2, h3⟩
theorem MapB.lt {w : World} {b n : Nat} {F : Int → Bool} (h : MapB w b n F) : b < w.heap.size := by
  obtain ⟨D, h1, h2, h3⟩ := h.ex
  exact h1.lt
theorem MapB.look {w : World} {b n : Nat} {F : Int → Bool} (h : MapB w b n F) {k : Int} (hk : i64ok k) : (Instr.lookup 41 (.map (some b)) (.int .i64 k) false).run Tryd.prog w = .ok (.bool (F k)) w := by
  obtain ⟨D, h1, h2, h3⟩ := h.ex
  obtain ⟨v, ps, hr, hv⟩ := h1.lookup (Maps.int_keyed Tryd.underlying3) Tryd.underlying41 (z := .bool false) (by kernel_rfl) (zd := .held (.bool false)) (zp := []) rfl (key_i64 hk)
  rw [h3 k hk] at hv
  unfold rdHeld at hv
  simp only [Option.some.injEq, Prod.mk.injEq, DataW.held.injEq] at hv
  rw [hr, hv.1]
theorem MapB.put {w : World} {b n : Nat} {F : Int → Bool} (h : MapB w b n F) (hn : n < 1000000) {k : Int} (hk : i64ok k) (v : Bool) :
    ∃ w', (Instr.mapUpdate 41 (.map (some b)) (.int .i64 k) (.bool v)).run Tryd.prog w = .ok () w' ∧ MapB w' b (n + 1) (fun x => if x = k then v else F x) ∧ Gr w (some b) w' := by
  obtain ⟨D, h1, h2, h3⟩ := h.ex
  obtain ⟨w', hr, h4, h5⟩ := h1.update (Maps.int_keyed Tryd.underlying3) Tryd.underlying41 (by unfold maxLen; omega) (val := .bool v) (d := .held (.bool v)) (ps := []) (key_i64 hk) rfl
  refine ⟨w', hr, ⟨_, h4, h2.put _ _, fun x hx => ?_⟩, h5⟩
  by_cases e : x = k
  · subst e
    rw [if_pos rfl]
    exact Maps.atKey_put_same h2 (Maps.int_keyed Tryd.underlying3 |>.key (key_i64 hx)) _ _
  · rw [if_neg e, Maps.atKey_put_other (by intro e2; exact e (by simpa using e2)), h3 x hx]
theorem wl_putB {ops : Array Oper} {rest : List Oper} {o : Oper} {a : Act} {Q : Exit → Act → World → Prop} (hgd : o.guard = none) (m x v : Operand) (ho : o.op = .mapUpdate 41 m x v)
    (b n : Nat) (F : Int → Bool) (k : Int) (u : Bool) (W : World) (hm : a.eval m = .map (some b)) (hx : a.eval x = .int .i64 k) (hv : a.eval v = .bool u) (hM : MapB W b n F) (hn : n < 1000000) (hk : i64ok k)
    (h : ∀ w1, MapB w1 b (n + 1) (fun x => if x = k then u else F x) → Gr W (some b) w1 → wpList Tryd.prog ops Q rest (a.put o.dst undef) w1) : wpList Tryd.prog ops Q (o :: rest) a W :=
  wpList_plain hgd fun K hK => by
    obtain ⟨w1, hr, h1, h2⟩ := hM.put hn hk u
    have h4 := hK _ _ (h w1 h1 h2)
    unfold Oper.wp execOp
    simp only [ho, hm, hx, hv]
    simp [hr, Result.andThen]
    exact h4
end Go.Proofs.YtjibmhmaoegcnaaDoor
namespace Go.Proofs.YtjibmhmaoegcnaaDoor
open Go.RowKit Go.Shelf
set_option linter.unusedVariables false
set_option maxHeartbeats 1000000 in
theorem few_any (p q r : Option Addr) (x y z c d e' : Nat) (w : World) :
    Calls Tryd.prog 13 #[.slice p x c, .slice q y d, .slice r z e'] w fun e w' => e = .returned (.bool (decide (x ≤ 6 ∧ y ≤ 12 ∧ z ≤ 60))) ∧ Gr w none w' := by
  by_cases hx : x ≤ 6
  · have hx' : (x : Int) ≤ 6 := by omega
    by_cases hy : y ≤ 12
    · have hy' : (y : Int) ≤ 12 := by omega
      by_cases hz : z ≤ 60
      · have hz' : (z : Int) ≤ 60 := by omega
        have H := Lib.hid (decide_eq_true (show x ≤ 6 ∧ y ≤ 12 ∧ z ≤ 60 from ⟨hx, hy, hz⟩))
        go_enter Tryd.func13, Tryd.ntmps13
        go_wp2_with fail
        go_ret
        exact ⟨by first | rfl | (rw [H.out]; rfl), Gr.refl _ _⟩
      · have hz' : ¬ (z : Int) ≤ 60 := by omega
        have H := Lib.hid (decide_eq_false (show ¬ (x ≤ 6 ∧ y ≤ 12 ∧ z ≤ 60) from fun h => hz h.2.2))
        go_enter Tryd.func13, Tryd.ntmps13
        go_wp2_with fail
        go_ret
        exact ⟨by first | rfl | (rw [H.out]; rfl), Gr.refl _ _⟩
    · have hy' : ¬ (y : Int) ≤ 12 := by omega
      have H := Lib.hid (decide_eq_false (show ¬ (x ≤ 6 ∧ y ≤ 12 ∧ z ≤ 60) from fun h => hy h.2.1))
      go_enter Tryd.func13, Tryd.ntmps13
      go_wp2_with fail
      go_ret
      exact ⟨by first | rfl | (rw [H.out]; rfl), Gr.refl _ _⟩
  · have hx' : ¬ (x : Int) ≤ 6 := by omega
    have H := Lib.hid (decide_eq_false (show ¬ (x ≤ 6 ∧ y ≤ 12 ∧ z ≤ 60) from fun h => hx h.1))
    go_enter Tryd.func13, Tryd.ntmps13
    go_wp2_with fail
    go_ret
    exact ⟨by first | rfl | (rw [H.out]; rfl), Gr.refl _ _⟩
/-- What is appended: nothing (nil), or a row that stands in memory. -/
def Src (w : World) (u : Value) (m size : Nat) (news : List Value) : Prop :=
  (u = .slice none 0 0 ∧ m = 0 ∧ news = []) ∨ ∃ ad c, u = .slice (some ad) m c ∧ news.length = m * size ∧ ∀ j x, news[j]? = some x → w.cell? (ad.add j) = some x
theorem Src.at {w : World} {b o m c size : Nat} {news : List Value} (hl : news.length = m * size) (h : At w b o news) : Src w (.slice (some ⟨b, o, none⟩) m c) m size news :=
  .inr ⟨_, _, rfl, hl, fun j x hj => by
    obtain ⟨hl, e⟩ := List.getElem?_eq_some_iff.1 hj
    rw [Addr.add_lit, ← e]; exact h j hl⟩
theorem wp_app {P : Program} {o : Oper} {a : Act} {w : World} {K : Act → World → Prop} {Q : Exit → Act → World → Prop} (s x : Operand) (t : TypeId) (ho : o.op = .call { callee := .builtin .append, args := #[s, x], argTypes := #[t, t] })
    (base : Nat) (e : TypeId) (i : TypeInfo) (z : Value) (size bytes : Nat) (ht : P.underlying t = some (.slice e)) (hi : P.info? e = some i) (hz : i.zero = some z) (hsize : i.size = size) (hby : i.bytes = bytes) (hzs : z.cells.size = size) (hsz : 0 < size)
    (v : Value) (n : Nat) (xs : List Value) (hs : a.eval s = v) (hown : w.ownsRow base e size v n xs) (u : Value) (m : Nat) (news : List Value) (hx : a.eval x = u) (hu : Src w u m size news) (h1 : ∀ u ∈ news, u.oneCell' = true)
    (h63 : n + m ≤ maxLen) (hbytes : (n + m) * bytes ≤ 140737488355328) (hbase : base ≤ w.heap.size)
    (h : ∀ v' w', w'.ownsRow base e size v' (n + m) (xs ++ news) → Gr w v.ownBlock w' → (v'.ownBlock = v.ownBlock ∨ v'.ownBlock = some w.heap.size) → K (a.put o.dst v') w') : Oper.wp P o a w K Q := by
  obtain ⟨v', w', hr, h2, h3, h4⟩ : ∃ v' w', (Builtin.append_ #[t, t] o.type #[v, u]).run P w = .ok v' w' ∧ w'.ownsRow base e size v' (n + m) (xs ++ news) ∧ Gr w v.ownBlock w' ∧ (v'.ownBlock = v.ownBlock ∨ v'.ownBlock = some w.heap.size) := by
    rcases hu with ⟨rfl, rfl, rfl⟩ | ⟨ad, c, rfl, hl, hat⟩
    · exact ⟨v, w, run_append_owned_none (P := P) w base t o.type e i size ht hi v n xs hown, by simpa using hown, Gr.refl _ _, .inl rfl⟩
    · obtain ⟨v', w', hr, h2, h3, _, h5⟩ := run_append_own_at (P := P) w base t o.type e i z size bytes ht hi hz hsize hby hzs hsz v n xs hown ad m c news hl hat h1 h63 hbytes hbase
      exact ⟨v', w', hr, h2, h3, h5⟩
  unfold Oper.wp execOp
  simp [ho, resolve, invoke, builtin, hs, hx, hr, Result.andThen]
  exact h v' w' h2 h3 h4
theorem step_app {P : Program} {ops : Array Oper} {o : Oper} {a : Act} {w : World} {K : Act → World → Prop} {Q : Exit → Act → World → Prop} {E : Prop} (hgd : o.guard = none) (s x : Operand) (t : TypeId) (ho : o.op = .call { callee := .builtin .append, args := #[s, x], argTypes := #[t, t] })
    (base : Nat) (e : TypeId) (i : TypeInfo) (z : Value) (size bytes : Nat) (ht : P.underlying t = some (.slice e)) (hi : P.info? e = some i) (hz : i.zero = some z) (hsize : i.size = size) (hby : i.bytes = bytes) (hzs : z.cells.size = size) (hsz : 0 < size)
    (v : Value) (n : Nat) (xs : List Value) (hs : a.eval s = v) (hown : w.ownsRow base e size v n xs) (u : Value) (m : Nat) (news : List Value) (hx : a.eval x = u) (hu : Src w u m size news) (h1 : ∀ u ∈ news, u.oneCell' = true)
    (h63 : n + m ≤ maxLen) (hbytes : (n + m) * bytes ≤ 140737488355328) (hbase : base ≤ w.heap.size)
    (h : ∀ v' w', w'.ownsRow base e size v' (n + m) (xs ++ news) → Gr w v.ownBlock w' → (v'.ownBlock = v.ownBlock ∨ v'.ownBlock = some w.heap.size) → K (a.put o.dst v') w') : if Region.wanted o (yielded ops a.tmps) = true then Oper.wp P o a w K Q else E := by
  rw [if_pos (by simp [Region.wanted, hgd])]
  exact wp_app s x t ho base e i z size bytes ht hi hz hsize hby hzs hsz v n xs hs hown u m news hx hu h1 h63 hbytes hbase h
theorem wl_app {P : Program} {ops : Array Oper} {rest : List Oper} {o : Oper} {a : Act} {w : World} {Q : Exit → Act → World → Prop} (hgd : o.guard = none) (s x : Operand) (t : TypeId) (ho : o.op = .call { callee := .builtin .append, args := #[s, x], argTypes := #[t, t] })
    (base : Nat) (e : TypeId) (i : TypeInfo) (z : Value) (size bytes : Nat) (ht : P.underlying t = some (.slice e)) (hi : P.info? e = some i) (hz : i.zero = some z) (hsize : i.size = size) (hby : i.bytes = bytes) (hzs : z.cells.size = size) (hsz : 0 < size)
    (v : Value) (n : Nat) (xs : List Value) (hs : a.eval s = v) (hown : w.ownsRow base e size v n xs) (u : Value) (m : Nat) (news : List Value) (hx : a.eval x = u) (hu : Src w u m size news) (h1 : ∀ u ∈ news, u.oneCell' = true)
    (h63 : n + m ≤ maxLen) (hbytes : (n + m) * bytes ≤ 140737488355328) (hbase : base ≤ w.heap.size)
    (h : ∀ v' w', w'.ownsRow base e size v' (n + m) (xs ++ news) → Gr w v.ownBlock w' → (v'.ownBlock = v.ownBlock ∨ v'.ownBlock = some w.heap.size) → wpList P ops Q rest (a.put o.dst v') w') : wpList P ops Q (o :: rest) a w :=
  wpList_plain hgd fun K hK => wp_app s x t ho base e i z size bytes ht hi hz hsize hby hzs hsz v n xs hs hown u m news hx hu h1 h63 hbytes hbase fun v' w' h2 h3 h4 => hK _ _ (h v' w' h2 h3 h4)
/-- A slice of nothing, newly made. -/
theorem own_empty (W : World) (T : TypeId) (s B : Nat) (hB : B ≤ W.heap.size) (o : Obj) (ho : o = .cells #[] T (0, 0)) : (W.alloc o).ownsRow B T s (.slice (some ⟨W.heap.size, 0, none⟩) 0 0) 0 [] := by
  subst ho
  refine ⟨by simp, .inr ⟨W.heap.size, 0, #[], rfl, hB, ?_, Nat.le_refl _, by unfold maxLen; omega, by simp, by simp⟩⟩
  show (W.heap.push _)[W.heap.size]? = _
  simp
/-- A row of things that the call owns. -/
abbrev OwnM (w : World) (B : Nat) (v : Value) (g : List Mem) : Prop := w.ownsRow B 47 3 v g.length (g.flatMap Mem.cells)
theorem flat_mems (g : List Mem) : (g.flatMap Mem.cells).length = g.length * 3 := by
  induction g with
  | nil => rfl
  | cons a g ih => rw [List.flatMap_cons, List.length_append, ih, List.length_cons]; show 3 + _ = _; omega
theorem Mem.cells_one (m : Mem) : ∀ v ∈ m.cells, v.oneCell' = true := by
  intro v hv
  simp only [Mem.cells, List.mem_cons, List.not_mem_nil, or_false] at hv
  rcases hv with rfl | rfl | rfl <;> rfl
theorem ones_flat {α : Type} (f : α → List Value) (l : List α) (h : ∀ a ∈ l, ∀ v ∈ f a, v.oneCell' = true) : ∀ v ∈ l.flatMap f, v.oneCell' = true := by
  intro v hv
  obtain ⟨a, ha, hv⟩ := List.mem_flatMap.1 hv
  exact h a ha v hv
theorem own_rows {w : World} {B s : Nat} {e : TypeId} {v : Value} {α : Type} {f : α → List Value} {g : List α} (hown : w.ownsRow B e s v g.length (g.flatMap f)) :
    ∃ p b c, v = .slice p g.length c ∧ (g = [] ∨ (p = some ⟨b, 0, none⟩ ∧ B ≤ b ∧ b < w.heap.size ∧ At w b 0 (g.flatMap f))) := by
  have h0 := hown
  obtain ⟨_, ⟨rfl, hn⟩ | ⟨b, cap, cur, rfl, hg, hb, _⟩⟩ := hown
  · have : g = [] := List.eq_nil_of_length_eq_zero hn
    subst this
    exact ⟨none, 0, 0, rfl, .inl rfl⟩
  · refine ⟨_, b, cap, rfl, .inr ⟨rfl, hg, (Array.getElem?_eq_some_iff.1 hb).1, fun i hi => ?_⟩⟩
    have := World.ownsRow.cells h0 (g := b) rfl i _ (List.getElem?_eq_getElem hi)
    rw [Addr.add_lit] at this
    exact this
theorem own_snoc {w : World} {B s : Nat} {e : TypeId} {v : Value} {α : Type} {f : α → List Value} {g l : List α} (h : w.ownsRow B e s v (g.length + l.length) (g.flatMap f ++ l.flatMap f)) : w.ownsRow B e s v (g ++ l).length ((g ++ l).flatMap f) := by
  rw [List.length_append, List.flatMap_append]; exact h
/-- Rows of things are appended to a row that the call owns. -/
theorem step_rows {α : Type} (f : α → List Value) {ops : Array Oper} {o : Oper} {a : Act} {W : World} {K : Act → World → Prop} {Q : Exit → Act → World → Prop} {E : Prop} (hgd : o.guard = none) (s x : Operand) (t e : TypeId) (ho : o.op = .call { callee := .builtin .append, args := #[s, x], argTypes := #[t, t] })
    (i : TypeInfo) (z : Value) (size bytes : Nat) (ht : (Tryd.prog).underlying t = some (.slice e)) (hi : (Tryd.prog).info? e = some i) (hz : i.zero = some z) (hsize : i.size = size) (hby : i.bytes = bytes) (hzs : z.cells.size = size) (hsz : 0 < size) (hb1 : bytes ≤ 1000)
    (B : Nat) (v : Value) (g l : List α) (hs : a.eval s = v) (hown : W.ownsRow B e size v g.length (g.flatMap f)) (u : Value) (hx : a.eval x = u) (hu : Src W u l.length size (l.flatMap f)) (h1 : ∀ a ∈ l, ∀ v ∈ f a, v.oneCell' = true) (hlen : g.length + l.length ≤ 100000) (hB : B ≤ W.heap.size)
    (h : ∀ p c w1, w1.ownsRow B e size (.slice p (g ++ l).length c) (g ++ l).length ((g ++ l).flatMap f) → Gr W v.ownBlock w1 → K (a.put o.dst (.slice p (g ++ l).length c)) w1) :
    if Region.wanted o (yielded ops a.tmps) = true then Oper.wp Tryd.prog o a W K Q else E := by
  refine step_app hgd s x t ho B e i z size bytes ht hi hz hsize hby hzs hsz v g.length _ hs hown u l.length _ hx hu (ones_flat f l h1) (by unfold maxLen; omega) (Nat.le_trans (Nat.mul_le_mul hlen hb1) (by omega)) hB ?_
  intro v' w' hown' hg _
  have h2 := own_snoc hown'
  obtain ⟨p, b, c, rfl, _⟩ := own_rows h2
  exact h p c w' h2 hg
theorem wl_rows {α : Type} (f : α → List Value) {ops : Array Oper} {rest : List Oper} {o : Oper} {a : Act} {W : World} {Q : Exit → Act → World → Prop} (hgd : o.guard = none) (s x : Operand) (t e : TypeId) (ho : o.op = .call { callee := .builtin .append, args := #[s, x], argTypes := #[t, t] })
    (i : TypeInfo) (z : Value) (size bytes : Nat) (ht : (Tryd.prog).underlying t = some (.slice e)) (hi : (Tryd.prog).info? e = some i) (hz : i.zero = some z) (hsize : i.size = size) (hby : i.bytes = bytes) (hzs : z.cells.size = size) (hsz : 0 < size) (hb1 : bytes ≤ 1000)
    (B : Nat) (v : Value) (g l : List α) (hs : a.eval s = v) (hown : W.ownsRow B e size v g.length (g.flatMap f)) (u : Value) (hx : a.eval x = u) (hu : Src W u l.length size (l.flatMap f)) (h1 : ∀ a ∈ l, ∀ v ∈ f a, v.oneCell' = true) (hlen : g.length + l.length ≤ 100000) (hB : B ≤ W.heap.size)
    (h : ∀ p c w1, w1.ownsRow B e size (.slice p (g ++ l).length c) (g ++ l).length ((g ++ l).flatMap f) → Gr W v.ownBlock w1 → wpList Tryd.prog ops Q rest (a.put o.dst (.slice p (g ++ l).length c)) w1) :
    wpList Tryd.prog ops Q (o :: rest) a W := by
  refine wl_app hgd s x t ho B e i z size bytes ht hi hz hsize hby hzs hsz v g.length _ hs hown u l.length _ hx hu (ones_flat f l h1) (by unfold maxLen; omega) (Nat.le_trans (Nat.mul_le_mul hlen hb1) (by omega)) hB ?_
  intro v' w' hown' hg _
  have h2 := own_snoc hown'
  obtain ⟨p, b, c, rfl, _⟩ := own_rows h2
  exact h p c w' h2 hg
end Go.Proofs.YtjibmhmaoegcnaaDoor
namespace Go.Proofs.YtjibmhmaoegcnaaDoor
open Go.RowKit Go.Shelf
set_option linter.unusedVariables false
set_option maxRecDepth 100000 in
theorem wl_build_ack {ops : Array Oper} {rest : List Oper} {o : Oper} {a : Act} {w : World} {Q : Exit → Act → World → Prop} (hw : Region.wanted o (yielded ops a.tmps) = true) (x : Operand) (ho : o.op = .buildSlice 38 1 #[(0, x)])
    (k : Ack) (hk : k.ch.length = 32) (hx : a.eval x = .agg k.cells.toArray) (h : wpList Tryd.prog ops Q rest (a.put o.dst (.slice (some ⟨w.heap.size, 0, none⟩) 1 1)) (w.alloc (.cells k.cells.toArray 27))) : wpList Tryd.prog ops Q (o :: rest) a w :=
  wpList_step fun K hK => by
    rw [if_pos hw]
    have h38 := k.cells_length hk
    have hbw := build_whole k hk
    have hc := hK _ _ h
    clear h hK
    unfold Oper.wp execOp
    simp only [ho, List.map_toArray, List.map_cons, List.map_nil, hx]
    simp [go_sem, h38, hbw, Instr.buildSlice]
    exact hc
set_option maxRecDepth 100000 in
theorem wl_build_mem {ops : Array Oper} {rest : List Oper} {o : Oper} {a : Act} {w : World} {Q : Exit → Act → World → Prop} (hw : Region.wanted o (yielded ops a.tmps) = true) (x : Operand) (ho : o.op = .buildSlice 37 1 #[(0, x)])
    (k : Mem) (hx : a.eval x = .agg k.cells.toArray) (h : wpList Tryd.prog ops Q rest (a.put o.dst (.slice (some ⟨w.heap.size, 0, none⟩) 1 1)) (w.alloc (.cells k.cells.toArray 47))) : wpList Tryd.prog ops Q (o :: rest) a w :=
  wpList_step fun K hK => by
    rw [if_pos hw]
    have h38 : k.cells.length = 3 := rfl
    have hbw : List.foldl (fun (cs : Array Value) (x : Value × Nat) => cs.setIfInBounds x.snd x.fst) #[.int .i64 0, .int .i64 0, .int .i64 0] k.cells.zipIdx = k.cells.toArray := rfl
    have hc := hK _ _ h
    clear h hK
    unfold Oper.wp execOp
    simp only [ho, List.map_toArray, List.map_cons, List.map_nil, hx]
    simp [go_sem, h38, hbw, Instr.buildSlice]
    exact hc
theorem own_len {w : World} {B s n k m : Nat} {e : TypeId} {p : Option Addr} {c : Nat} {xs : List Value} (h : w.ownsRow B e s (.slice p n c) n xs) (hk : n = k) (hm : n = m) : w.ownsRow B e s (.slice p k c) m xs := by subst hk; subst hm; exact h
theorem wl_rows_n {α : Type} (f : α → List Value) {ops : Array Oper} {rest : List Oper} {o : Oper} {a : Act} {W : World} {Q : Exit → Act → World → Prop} (hgd : o.guard = none) (s x : Operand) (t e : TypeId) (ho : o.op = .call { callee := .builtin .append, args := #[s, x], argTypes := #[t, t] })
    (i : TypeInfo) (z : Value) (size bytes : Nat) (ht : (Tryd.prog).underlying t = some (.slice e)) (hi : (Tryd.prog).info? e = some i) (hz : i.zero = some z) (hsize : i.size = size) (hby : i.bytes = bytes) (hzs : z.cells.size = size) (hsz : 0 < size) (hb1 : bytes ≤ 1000)
    (B : Nat) (v : Value) (g l : List α) (N : Nat) (hN : g.length + l.length = N) (hs : a.eval s = v) (hown : W.ownsRow B e size v g.length (g.flatMap f)) (u : Value) (hx : a.eval x = u) (hu : Src W u l.length size (l.flatMap f)) (h1 : ∀ a ∈ l, ∀ v ∈ f a, v.oneCell' = true) (hlen : N ≤ 100000) (hB : B ≤ W.heap.size)
    (h : ∀ p c w1, w1.ownsRow B e size (.slice p N c) (g ++ l).length ((g ++ l).flatMap f) → Gr W v.ownBlock w1 → wpList Tryd.prog ops Q rest (a.put o.dst (.slice p N c)) w1) :
    wpList Tryd.prog ops Q (o :: rest) a W := by
  refine wl_rows f hgd s x t e ho i z size bytes ht hi hz hsize hby hzs hsz hb1 B v g l hs hown u hx hu h1 (by omega) hB ?_
  intro p c w1 h2 h3
  have e : (g ++ l).length = N := by rw [List.length_append]; exact hN
  rw [e] at h2 ⊢
  exact h p c w1 (by rw [e]; exact h2) h3
theorem wl_rows_k {α : Type} (f : α → List Value) {ops : Array Oper} {rest : List Oper} {o : Oper} {a : Act} {W : World} {Q : Exit → Act → World → Prop} (hgd : o.guard = none) (s x : Operand) (t e : TypeId) (ho : o.op = .call { callee := .builtin .append, args := #[s, x], argTypes := #[t, t] })
    (i : TypeInfo) (z : Value) (size bytes : Nat) (ht : (Tryd.prog).underlying t = some (.slice e)) (hi : (Tryd.prog).info? e = some i) (hz : i.zero = some z) (hsize : i.size = size) (hby : i.bytes = bytes) (hzs : z.cells.size = size) (hsz : 0 < size) (hb1 : bytes ≤ 1000)
    (B : Nat) (v : Value) (g l : List α) (N : Nat) (hN : g.length + l.length = N) (hs : a.eval s = v) (hown : W.ownsRow B e size v g.length (g.flatMap f)) (u : Value) (hx : a.eval x = u) (hu : Src W u l.length size (l.flatMap f)) (h1 : ∀ a ∈ l, ∀ v ∈ f a, v.oneCell' = true) (hlen : N ≤ 100000) (hB : B ≤ W.heap.size)
    (h : ∀ p c w1, w1.ownsRow B e size (.slice p N c) (g ++ l).length ((g ++ l).flatMap f) → Gr W v.ownBlock w1 → ((Value.slice p N c).ownBlock = v.ownBlock ∨ (Value.slice p N c).ownBlock = some W.heap.size) → wpList Tryd.prog ops Q rest (a.put o.dst (.slice p N c)) w1) :
    wpList Tryd.prog ops Q (o :: rest) a W := by
  refine wl_app hgd s x t ho B e i z size bytes ht hi hz hsize hby hzs hsz v g.length _ hs hown u l.length _ hx hu (ones_flat f l h1) (by unfold maxLen; omega) (Nat.le_trans (Nat.mul_le_mul (by omega : g.length + l.length ≤ 100000) hb1) (by omega)) hB ?_
  intro v' w' hown' hg hat
  have h2 := own_snoc hown'
  obtain ⟨p, b, c, rfl, _⟩ := own_rows h2
  have e : (g ++ l).length = N := by rw [List.length_append]; exact hN
  rw [e] at h2 hat ⊢
  exact h p c w' (by rw [e]; exact h2) hg hat
theorem own_new {w w' : World} {B s n : Nat} {e : TypeId} {v : Value} {xs : List Value} (h : w.ownsRow B e s v n xs) (hg : Gr w none w') : w'.ownsRow B e s v n xs := World.ownsRow.kept h hg (by cases v.ownBlock <;> simp)
theorem own_apart {w w' : World} {B' s s' n n' : Nat} {e e' : TypeId} {v v' : Value} {xs xs' : List Value} (h : w'.ownsRow w.heap.size e s v n xs) (h' : w.ownsRow B' e' s' v' n' xs') : v.ownBlock = none ∨ v.ownBlock ≠ v'.ownBlock := by
  cases hq : v.ownBlock with
  | none => exact .inl rfl
  | some y => exact .inr fun e => by have := own_ge h y hq; have := own_lt h' y e.symm; omega
theorem least_own {W : World} {B1 B2 n1 c1 n2 c2 : Nat} {p1 p2 : Option Addr} (fo st : Int) (ms : List Mem) (l : List Ack) (hK : Laid W) (hl : ∀ a ∈ l, a.ch.length = 32 ∧ a.ints) (hll : l.length ≤ 1000) (hml : ms.length ≤ 1000) (hmd : ∀ m ∈ ms, i64ok m.d)
    (h1 : OwnM W B1 (.slice p1 n1 c1) ms) (h2 : OwnA W B2 (.slice p2 n2 c2) l) :
    Calls Tryd.prog 19 #[.slice p1 n1 c1, .int .i64 fo, .int .i64 st, .slice p2 n2 c2] W fun e w' => e = .returned (.int .i64 (leastV fo st l ms)) ∧ Gr W none w' := by
  obtain ⟨q1, b1, d1, e1, k1⟩ := own_rows h1
  obtain ⟨q2, b2, d2, e2, k2⟩ := own_rows h2
  rw [e1, e2]
  exact least_at q1 q2 b1 0 b2 0 d1 d2 fo st ms l W hK hl hll hml hmd (k2.imp_right fun k => ⟨k.1, k.2.2⟩) (k1.imp_right fun k => ⟨k.1, k.2.2⟩)
theorem mem_range {w : World} {b : Nat} {ms : List Mem} (h : At w b 0 (ms.flatMap Mem.cells)) (i : Nat) (hi : i < ms.length) : w.rangeAt b (i * 3) (ms[i]).cells := by
  intro j v hv
  have hj : j < 3 := (List.getElem?_eq_some_iff.1 hv).1
  have := mem_cell h i hi j hj
  rw [Nat.zero_add] at this
  rw [this]; exact hv
def zeros38 : List Value := [.int .i64 0, .int .i64 0, .int .i64 0, .int .i64 0, .int .u8 0, .int .u8 0, .int .u8 0, .int .u8 0, .int .u8 0, .int .u8 0, .int .u8 0, .int .u8 0, .int .u8 0, .int .u8 0, .int .u8 0, .int .u8 0, .int .u8 0, .int .u8 0, .int .u8 0, .int .u8 0, .int .u8 0, .int .u8 0, .int .u8 0, .int .u8 0, .int .u8 0, .int .u8 0, .int .u8 0, .int .u8 0, .int .u8 0, .int .u8 0, .int .u8 0, .int .u8 0, .int .u8 0, .int .u8 0, .int .u8 0, .int .u8 0, .int .i64 0, .int .i64 0]
set_option maxRecDepth 100000 in
theorem wl_build_ack2 {ops : Array Oper} {rest : List Oper} {o : Oper} {a : Act} {w : World} {Q : Exit → Act → World → Prop} (hw : Region.wanted o (yielded ops a.tmps) = true) (x y : Operand) (ho : o.op = .buildSlice 38 2 #[(0, x), (1, y)])
    (k l : Ack) (hk : k.ch.length = 32) (hl : l.ch.length = 32) (hx : a.eval x = .agg k.cells.toArray) (hy : a.eval y = .agg l.cells.toArray) (h : wpList Tryd.prog ops Q rest (a.put o.dst (.slice (some ⟨w.heap.size, 0, none⟩) 2 2)) (w.alloc (.cells (k.cells ++ l.cells).toArray 27))) : wpList Tryd.prog ops Q (o :: rest) a w :=
  wpList_step fun K hK => by
    rw [if_pos hw]
    have h38 := k.cells_length hk
    have h39 := l.cells_length hl
    have hF1 : List.foldl (fun (cs : Array Value) (x : Value × Nat) => cs.setIfInBounds x.snd x.fst) #[.int .i64 0, .int .i64 0, .int .i64 0, .int .i64 0, .int .u8 0, .int .u8 0, .int .u8 0, .int .u8 0, .int .u8 0, .int .u8 0, .int .u8 0, .int .u8 0, .int .u8 0, .int .u8 0, .int .u8 0, .int .u8 0, .int .u8 0, .int .u8 0, .int .u8 0, .int .u8 0, .int .u8 0, .int .u8 0, .int .u8 0, .int .u8 0, .int .u8 0, .int .u8 0, .int .u8 0, .int .u8 0, .int .u8 0, .int .u8 0, .int .u8 0, .int .u8 0, .int .u8 0, .int .u8 0, .int .u8 0, .int .u8 0, .int .i64 0, .int .i64 0, .int .i64 0, .int .i64 0, .int .i64 0, .int .i64 0, .int .u8 0, .int .u8 0, .int .u8 0, .int .u8 0, .int .u8 0, .int .u8 0, .int .u8 0, .int .u8 0, .int .u8 0, .int .u8 0, .int .u8 0, .int .u8 0, .int .u8 0, .int .u8 0, .int .u8 0, .int .u8 0, .int .u8 0, .int .u8 0, .int .u8 0, .int .u8 0, .int .u8 0, .int .u8 0, .int .u8 0, .int .u8 0, .int .u8 0, .int .u8 0, .int .u8 0, .int .u8 0, .int .u8 0, .int .u8 0, .int .u8 0, .int .u8 0, .int .i64 0, .int .i64 0] k.cells.zipIdx = (k.cells ++ zeros38).toArray := by
      have h := foldl_set 0 k.cells 0 [] zeros38 zeros38 (by rw [h38]; rfl) rfl
      simp only [Nat.zero_add, List.nil_append] at h
      exact h
    have hF2 : List.foldl (fun (cs : Array Value) (x : Value × Nat) => cs.setIfInBounds (38 + x.snd) x.fst) (k.cells ++ zeros38).toArray l.cells.zipIdx = (k.cells ++ l.cells).toArray := by
      have h := foldl_set 38 l.cells 0 k.cells zeros38 [] (by rw [h39]; rfl) (by rw [h38])
      simp only [List.append_nil] at h
      exact h
    have hz38 : zeros38.length = 38 := rfl
    have hc := hK _ _ h
    clear h hK
    unfold Oper.wp execOp
    simp only [ho, List.map_toArray, List.map_cons, List.map_nil, hx, hy]
    simp [go_sem, h38, h39, hF1, hF2, hz38, Instr.buildSlice]
    exact hc
end Go.Proofs.YtjibmhmaoegcnaaDoor
