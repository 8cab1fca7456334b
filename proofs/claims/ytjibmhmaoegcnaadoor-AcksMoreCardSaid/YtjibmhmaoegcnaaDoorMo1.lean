/- Parts of a proof, joined by program: Few, Build, More. -/
import Derived.Test.YtjibmhmaoegcnaaDoorK12
import Derived.Maps.AppendAt
import Derived.Deep.DeepCutAuto
namespace Go.Proofs.YtjibmhmaoegcnaaDoor
open Go.RowKit Go.Shelf
set_option linter.unusedVariables false
set_option maxHeartbeats 1000000 in
theorem few_any (p q r : Option Addr) (x y z c d e' : Nat) (w : World) :
    Calls Tryd.prog 13 #[.slice p x c, .slice q y d, .slice r z e'] w fun e w' => e = .returned (.bool (decide (x ≤ 6 ∧ y ≤ 12 ∧ z ≤ 60))) ∧ Gr w none w' := by
  by_cases hx : x ≤ 6
  · have hx' : (x : Int) ≤ 6 := by omega
    by_cases hy : y ≤ 12
    · have hy' : (y : Int) ≤ 12 := by omega
      by_cases hz : z ≤ 60
      · have hz' : (z : Int) ≤ 60 := by omega
        have H := Lib.hid (decide_eq_true (show x ≤ 6 ∧ y ≤ 12 ∧ z ≤ 60 from ⟨hx, hy, hz⟩))
        go_enter Tryd.func13, Tryd.ntmps13
        go_wp2_with fail
        go_ret
        exact ⟨by first | rfl | (rw [H.out]; rfl), Gr.refl _ _⟩
      · have hz' : ¬ (z : Int) ≤ 60 := by omega
        have H := Lib.hid (decide_eq_false (show ¬ (x ≤ 6 ∧ y ≤ 12 ∧ z ≤ 60) from fun h => hz h.2.2))
        go_enter Tryd.func13, Tryd.ntmps13
        go_wp2_with fail
        go_ret
        exact ⟨by first | rfl | (rw [H.out]; rfl), Gr.refl _ _⟩
    · have hy' : ¬ (y : Int) ≤ 12 := by omega
      have H := Lib.hid (decide_eq_false (show ¬ (x ≤ 6 ∧ y ≤ 12 ∧ z ≤ 60) from fun h => hy h.2.1))
      go_enter Tryd.func13, Tryd.ntmps13
      go_wp2_with fail
      go_ret
      exact ⟨by first | rfl | (rw [H.out]; rfl), Gr.refl _ _⟩
  · have hx' : ¬ (x : Int) ≤ 6 := by omega
    have H := Lib.hid (decide_eq_false (show ¬ (x ≤ 6 ∧ y ≤ 12 ∧ z ≤ 60) from fun h => hx h.1))
    go_enter Tryd.func13, Tryd.ntmps13
    go_wp2_with fail
    go_ret
    exact ⟨by first | rfl | (rw [H.out]; rfl), Gr.refl _ _⟩
/-- What is appended: nothing (nil), or a row that stands in memory. -/
def Src (w : World) (u : Value) (m size : Nat) (news : List Value) : Prop :=
  (u = .slice none 0 0 ∧ m = 0 ∧ news = []) ∨ ∃ ad c, u = .slice (some ad) m c ∧ news.length = m * size ∧ ∀ j x, news[j]? = some x → w.cell? (ad.add j) = some x
theorem Src.at {w : World} {b o m c size : Nat} {news : List Value} (hl : news.length = m * size) (h : At w b o news) : Src w (.slice (some ⟨b, o, none⟩) m c) m size news :=
  .inr ⟨_, _, rfl, hl, fun j x hj => by
    obtain ⟨hl, e⟩ := List.getElem?_eq_some_iff.1 hj
    rw [Addr.add_lit, ← e]; exact h j hl⟩
theorem wp_app {P : Program} {o : Oper} {a : Act} {w : World} {K : Act → World → Prop} {Q : Exit → Act → World → Prop} (s x : Operand) (t : TypeId) (ho : o.op = .call { callee := .builtin .append, args := #[s, x], argTypes := #[t, t] })
    (base : Nat) (e : TypeId) (i : TypeInfo) (z : Value) (size bytes : Nat) (ht : P.underlying t = some (.slice e)) (hi : P.info? e = some i) (hz : i.zero = some z) (hsize : i.size = size) (hby : i.bytes = bytes) (hzs : z.cells.size = size) (hsz : 0 < size)
    (v : Value) (n : Nat) (xs : List Value) (hs : a.eval s = v) (hown : w.ownsRow base e size v n xs) (u : Value) (m : Nat) (news : List Value) (hx : a.eval x = u) (hu : Src w u m size news) (h1 : ∀ u ∈ news, u.oneCell' = true)
    (h63 : n + m ≤ maxLen) (hbytes : (n + m) * bytes ≤ 140737488355328) (hbase : base ≤ w.heap.size)
    (h : ∀ v' w', w'.ownsRow base e size v' (n + m) (xs ++ news) → Gr w v.ownBlock w' → (v'.ownBlock = v.ownBlock ∨ v'.ownBlock = some w.heap.size) → K (a.put o.dst v') w') : Oper.wp P o a w K Q := by
  obtain ⟨v', w', hr, h2, h3, h4⟩ : ∃ v' w', (Builtin.append_ #[t, t] o.type #[v, u]).run P w = .ok v' w' ∧ w'.ownsRow base e size v' (n + m) (xs ++ news) ∧ Gr w v.ownBlock w' ∧ (v'.ownBlock = v.ownBlock ∨ v'.ownBlock = some w.heap.size) := by
    rcases hu with ⟨rfl, rfl, rfl⟩ | ⟨ad, c, rfl, hl, hat⟩
    · exact ⟨v, w, run_append_owned_none (P := P) w base t o.type e i size ht hi v n xs hown, by simpa using hown, Gr.refl _ _, .inl rfl⟩
    · obtain ⟨v', w', hr, h2, h3, _, h5⟩ := run_append_own_at (P := P) w base t o.type e i z size bytes ht hi hz hsize hby hzs hsz v n xs hown ad m c news hl hat h1 h63 hbytes hbase
      exact ⟨v', w', hr, h2, h3, h5⟩
  unfold Oper.wp execOp
  simp [ho, resolve, invoke, builtin, hs, hx, hr, Result.andThen]
  exact h v' w' h2 h3 h4
theorem step_app {P : Program} {ops : Array Oper} {o : Oper} {a : Act} {w : World} {K : Act → World → Prop} {Q : Exit → Act → World → Prop} {E : Prop} (hgd : o.guard = none) (s x : Operand) (t : TypeId) (ho : o.op = .call { callee := .builtin .append, args := #[s, x], argTypes := #[t, t] })
    (base : Nat) (e : TypeId) (i : TypeInfo) (z : Value) (size bytes : Nat) (ht : P.underlying t = some (.slice e)) (hi : P.info? e = some i) (hz : i.zero = some z) (hsize : i.size = size) (hby : i.bytes = bytes) (hzs : z.cells.size = size) (hsz : 0 < size)
    (v : Value) (n : Nat) (xs : List Value) (hs : a.eval s = v) (hown : w.ownsRow base e size v n xs) (u : Value) (m : Nat) (news : List Value) (hx : a.eval x = u) (hu : Src w u m size news) (h1 : ∀ u ∈ news, u.oneCell' = true)
    (h63 : n + m ≤ maxLen) (hbytes : (n + m) * bytes ≤ 140737488355328) (hbase : base ≤ w.heap.size)
    (h : ∀ v' w', w'.ownsRow base e size v' (n + m) (xs ++ news) → Gr w v.ownBlock w' → (v'.ownBlock = v.ownBlock ∨ v'.ownBlock = some w.heap.size) → K (a.put o.dst v') w') : if Region.wanted o (yielded ops a.tmps) = true then Oper.wp P o a w K Q else E := by
  rw [if_pos (by simp [Region.wanted, hgd])]
  exact wp_app s x t ho base e i z size bytes ht hi hz hsize hby hzs hsz v n xs hs hown u m news hx hu h1 h63 hbytes hbase h
theorem wl_app {P : Program} {ops : Array Oper} {rest : List Oper} {o : Oper} {a : Act} {w : World} {Q : Exit → Act → World → Prop} (hgd : o.guard = none) (s x : Operand) (t : TypeId) (ho : o.op = .call { callee := .builtin .append, args := #[s, x], argTypes := #[t, t] })
    (base : Nat) (e : TypeId) (i : TypeInfo) (z : Value) (size bytes : Nat) (ht : P.underlying t = some (.slice e)) (hi : P.info? e = some i) (hz : i.zero = some z) (hsize : i.size = size) (hby : i.bytes = bytes) (hzs : z.cells.size = size) (hsz : 0 < size)
    (v : Value) (n : Nat) (xs : List Value) (hs : a.eval s = v) (hown : w.ownsRow base e size v n xs) (u : Value) (m : Nat) (news : List Value) (hx : a.eval x = u) (hu : Src w u m size news) (h1 : ∀ u ∈ news, u.oneCell' = true)
    (h63 : n + m ≤ maxLen) (hbytes : (n + m) * bytes ≤ 140737488355328) (hbase : base ≤ w.heap.size)
    (h : ∀ v' w', w'.ownsRow base e size v' (n + m) (xs ++ news) → Gr w v.ownBlock w' → (v'.ownBlock = v.ownBlock ∨ v'.ownBlock = some w.heap.size) → wpList P ops Q rest (a.put o.dst v') w') : wpList P ops Q (o :: rest) a w :=
  wpList_plain hgd fun K hK => wp_app s x t ho base e i z size bytes ht hi hz hsize hby hzs hsz v n xs hs hown u m news hx hu h1 h63 hbytes hbase fun v' w' h2 h3 h4 => hK _ _ (h v' w' h2 h3 h4)
/-- A slice of nothing, newly made. -/
theorem own_empty (W : World) (T : TypeId) (s B : Nat) (hB : B ≤ W.heap.size) (o : Obj) (ho : o = .cells #[] T (0, 0)) : (W.alloc o).ownsRow B T s (.slice (some ⟨W.heap.size, 0, none⟩) 0 0) 0 [] := by
  subst ho
  refine ⟨by simp, .inr ⟨W.heap.size, 0, #[], rfl, hB, ?_, Nat.le_refl _, by unfold maxLen; omega, by simp, by simp⟩⟩
  show (W.heap.push _)[W.heap.size]? = _
  simp
/-- A row of things that the call owns. -/
abbrev OwnM (w : World) (B : Nat) (v : Value) (g : List Mem) : Prop := w.ownsRow B 47 3 v g.length (g.flatMap Mem.cells)
theorem flat_mems (g : List Mem) : (g.flatMap Mem.cells).length = g.length * 3 := by
  induction g with
  | nil => rfl
  | cons a g ih => rw [List.flatMap_cons, List.length_append, ih, List.length_cons]; show 3 + _ = _; omega
theorem Mem.cells_one (m : Mem) : ∀ v ∈ m.cells, v.oneCell' = true := by
  intro v hv
  simp only [Mem.cells, List.mem_cons, List.not_mem_nil, or_false] at hv
  rcases hv with rfl | rfl | rfl <;> rfl
theorem ones_flat {α : Type} (f : α → List Value) (l : List α) (h : ∀ a ∈ l, ∀ v ∈ f a, v.oneCell' = true) : ∀ v ∈ l.flatMap f, v.oneCell' = true := by
  intro v hv
  obtain ⟨a, ha, hv⟩ := List.mem_flatMap.1 hv
  exact h a ha v hv
theorem own_rows {w : World} {B s : Nat} {e : TypeId} {v : Value} {α : Type} {f : α → List Value} {g : List α} (hown : w.ownsRow B e s v g.length (g.flatMap f)) :
    ∃ p b c, v = .slice p g.length c ∧ (g = [] ∨ (p = some ⟨b, 0, none⟩ ∧ B ≤ b ∧ b < w.heap.size ∧ At w b 0 (g.flatMap f))) := by
  have h0 := hown
  obtain ⟨_, ⟨rfl, hn⟩ | ⟨b, cap, cur, rfl, hg, hb, _⟩⟩ := hown
  · have : g = [] := List.eq_nil_of_length_eq_zero hn
    subst this
    exact ⟨none, 0, 0, rfl, .inl rfl⟩
  · refine ⟨_, b, cap, rfl, .inr ⟨rfl, hg, (Array.getElem?_eq_some_iff.1 hb).1, fun i hi => ?_⟩⟩
    have := World.ownsRow.cells h0 (g := b) rfl i _ (List.getElem?_eq_getElem hi)
    rw [Addr.add_lit] at this
    exact this
theorem own_snoc {w : World} {B s : Nat} {e : TypeId} {v : Value} {α : Type} {f : α → List Value} {g l : List α} (h : w.ownsRow B e s v (g.length + l.length) (g.flatMap f ++ l.flatMap f)) : w.ownsRow B e s v (g ++ l).length ((g ++ l).flatMap f) := by
  rw [List.length_append, List.flatMap_append]; exact h
/-- Rows of things are appended to a row that the call owns. -/
theorem step_rows {α : Type} (f : α → List Value) {ops : Array Oper} {o : Oper} {a : Act} {W : World} {K : Act → World → Prop} {Q : Exit → Act → World → Prop} {E : Prop} (hgd : o.guard = none) (s x : Operand) (t e : TypeId) (ho : o.op = .call { callee := .builtin .append, args := #[s, x], argTypes := #[t, t] })
    (i : TypeInfo) (z : Value) (size bytes : Nat) (ht : (Tryd.prog).underlying t = some (.slice e)) (hi : (Tryd.prog).info? e = some i) (hz : i.zero = some z) (hsize : i.size = size) (hby : i.bytes = bytes) (hzs : z.cells.size = size) (hsz : 0 < size) (hb1 : bytes ≤ 1000)
    (B : Nat) (v : Value) (g l : List α) (hs : a.eval s = v) (hown : W.ownsRow B e size v g.length (g.flatMap f)) (u : Value) (hx : a.eval x = u) (hu : Src W u l.length size (l.flatMap f)) (h1 : ∀ a ∈ l, ∀ v ∈ f a, v.oneCell' = true) (hlen : g.length + l.length ≤ 100000) (hB : B ≤ W.heap.size)
    (h : ∀ p c w1, w1.ownsRow B e size (.slice p (g ++ l).length c) (g ++ l).length ((g ++ l).flatMap f) → Gr W v.ownBlock w1 → K (a.put o.dst (.slice p (g ++ l).length c)) w1) :
    if Region.wanted o (yielded ops a.tmps) = true then Oper.wp Tryd.prog o a W K Q else E := by
  refine step_app hgd s x t ho B e i z size bytes ht hi hz hsize hby hzs hsz v g.length _ hs hown u l.length _ hx hu (ones_flat f l h1) (by unfold maxLen; omega) (Nat.le_trans (Nat.mul_le_mul hlen hb1) (by omega)) hB ?_
  intro v' w' hown' hg _
  have h2 := own_snoc hown'
  obtain ⟨p, b, c, rfl, _⟩ := own_rows h2
  exact h p c w' h2 hg
theorem wl_rows {α : Type} (f : α → List Value) {ops : Array Oper} {rest : List Oper} {o : Oper} {a : Act} {W : World} {Q : Exit → Act → World → Prop} (hgd : o.guard = none) (s x : Operand) (t e : TypeId) (ho : o.op = .call { callee := .builtin .append, args := #[s, x], argTypes := #[t, t] })
    (i : TypeInfo) (z : Value) (size bytes : Nat) (ht : (Tryd.prog).underlying t = some (.slice e)) (hi : (Tryd.prog).info? e = some i) (hz : i.zero = some z) (hsize : i.size = size) (hby : i.bytes = bytes) (hzs : z.cells.size = size) (hsz : 0 < size) (hb1 : bytes ≤ 1000)
    (B : Nat) (v : Value) (g l : List α) (hs : a.eval s = v) (hown : W.ownsRow B e size v g.length (g.flatMap f)) (u : Value) (hx : a.eval x = u) (hu : Src W u l.length size (l.flatMap f)) (h1 : ∀ a ∈ l, ∀ v ∈ f a, v.oneCell' = true) (hlen : g.length + l.length ≤ 100000) (hB : B ≤ W.heap.size)
    (h : ∀ p c w1, w1.ownsRow B e size (.slice p (g ++ l).length c) (g ++ l).length ((g ++ l).flatMap f) → Gr W v.ownBlock w1 → wpList Tryd.prog ops Q rest (a.put o.dst (.slice p (g ++ l).length c)) w1) :
    wpList Tryd.prog ops Q (o :: rest) a W := by
  refine wl_app hgd s x t ho B e i z size bytes ht hi hz hsize hby hzs hsz v g.length _ hs hown u l.length _ hx hu (ones_flat f l h1) (by unfold maxLen; omega) (Nat.le_trans (Nat.mul_le_mul hlen hb1) (by omega)) hB ?_
  intro v' w' hown' hg _
  have h2 := own_snoc hown'
  obtain ⟨p, b, c, rfl, _⟩ := own_rows h2
  exact h p c w' h2 hg
end Go.Proofs.YtjibmhmaoegcnaaDoor
namespace Go.Proofs.YtjibmhmaoegcnaaDoor
open Go.RowKit Go.Shelf
set_option linter.unusedVariables false
set_option maxRecDepth 100000 in
theorem wl_build_ack {ops : Array Oper} {rest : List Oper} {o : Oper} {a : Act} {w : World} {Q : Exit → Act → World → Prop} (hw : Region.wanted o (yielded ops a.tmps) = true) (x : Operand) (ho : o.op = .buildSlice 38 1 #[(0, x)])
    (k : Ack) (hk : k.ch.length = 32) (hx : a.eval x = .agg k.cells.toArray) (h : wpList Tryd.prog ops Q rest (a.put o.dst (.slice (some ⟨w.heap.size, 0, none⟩) 1 1)) (w.alloc (.cells k.cells.toArray 27))) : wpList Tryd.prog ops Q (o :: rest) a w :=
  wpList_step fun K hK => by
    rw [if_pos hw]
    have h38 := k.cells_length hk
    have hbw := build_whole k hk
    have hc := hK _ _ h
    clear h hK
    unfold Oper.wp execOp
    simp only [ho, List.map_toArray, List.map_cons, List.map_nil, hx]
    simp [go_sem, h38, hbw, Instr.buildSlice]
    exact hc
set_option maxRecDepth 100000 in
theorem wl_build_mem {ops : Array Oper} {rest : List Oper} {o : Oper} {a : Act} {w : World} {Q : Exit → Act → World → Prop} (hw : Region.wanted o (yielded ops a.tmps) = true) (x : Operand) (ho : o.op = .buildSlice 37 1 #[(0, x)])
    (k : Mem) (hx : a.eval x = .agg k.cells.toArray) (h : wpList Tryd.prog ops Q rest (a.put o.dst (.slice (some ⟨w.heap.size, 0, none⟩) 1 1)) (w.alloc (.cells k.cells.toArray 47))) : wpList Tryd.prog ops Q (o :: rest) a w :=
  wpList_step fun K hK => by
    rw [if_pos hw]
    have h38 : k.cells.length = 3 := rfl
    have hbw : List.foldl (fun (cs : Array Value) (x : Value × Nat) => cs.setIfInBounds x.snd x.fst) #[.int .i64 0, .int .i64 0, .int .i64 0] k.cells.zipIdx = k.cells.toArray := rfl
    have hc := hK _ _ h
    clear h hK
    unfold Oper.wp execOp
    simp only [ho, List.map_toArray, List.map_cons, List.map_nil, hx]
    simp [go_sem, h38, hbw, Instr.buildSlice]
    exact hc
end Go.Proofs.YtjibmhmaoegcnaaDoor
namespace Go.Proofs.YtjibmhmaoegcnaaDoor
open Go.RowKit Go.Shelf
set_option linter.unusedVariables false
set_option linter.unusedSimpArgs false
/-- What stands besides: the acknowledgement and the member that came by value. -/
structure MS (XA XM : Nat) (a : Ack) (m : Mem) (w W : World) : Prop where
  gr : Gr w none W
  a : Blk W XA 27 a.cells
  m : Blk W XM 47 m.cells
theorem MS.on {XA XM : Nat} {a : Ack} {m : Mem} {w W W' : World} (h : MS XA XM a m w W) (k : Gr W none W') : MS XA XM a m w W' := ⟨h.gr.trans k, h.a.grown k (by simp), h.m.grown k (by simp)⟩
theorem MS.row {XA XM : Nat} {a : Ack} {m : Mem} {w W W' : World} (h : MS XA XM a m w W) {row : Option Nat} (k : Gr W row W') (hr : ∀ b, row = some b → w.heap.size ≤ b ∧ b ≠ XA ∧ b ≠ XM) : MS XA XM a m w W' :=
  ⟨h.gr.on k fun b e => .inl (hr b e).1, h.a.grown k (fun e => (hr _ e.symm).2.1 rfl), h.m.grown k (fun e => (hr _ e.symm).2.2 rfl)⟩
theorem MS.g0 {XA XM : Nat} {a : Ack} {m : Mem} {w W : World} (h : MS XA XM a m w W) : Gr w none W := h.gr
theorem MS.all {XA XM : Nat} {a : Ack} {m : Mem} {w W : World} (h : MS XA XM a m w W) : W.rangeAt XA 0 a.cells ∧ W.rangeAt XM 0 m.cells ∧ MS XA XM a m w W :=
  ⟨fun j v hv => by rw [Nat.zero_add, h.a.cell? j]; exact hv, fun j v hv => by rw [Nat.zero_add, h.m.cell? j]; exact hv, h⟩
theorem own_len {w : World} {B s n k m : Nat} {e : TypeId} {p : Option Addr} {c : Nat} {xs : List Value} (h : w.ownsRow B e s (.slice p n c) n xs) (hk : n = k) (hm : n = m) : w.ownsRow B e s (.slice p k c) m xs := by subst hk; subst hm; exact h
theorem wl_rows_n {α : Type} (f : α → List Value) {ops : Array Oper} {rest : List Oper} {o : Oper} {a : Act} {W : World} {Q : Exit → Act → World → Prop} (hgd : o.guard = none) (s x : Operand) (t e : TypeId) (ho : o.op = .call { callee := .builtin .append, args := #[s, x], argTypes := #[t, t] })
    (i : TypeInfo) (z : Value) (size bytes : Nat) (ht : (Tryd.prog).underlying t = some (.slice e)) (hi : (Tryd.prog).info? e = some i) (hz : i.zero = some z) (hsize : i.size = size) (hby : i.bytes = bytes) (hzs : z.cells.size = size) (hsz : 0 < size) (hb1 : bytes ≤ 1000)
    (B : Nat) (v : Value) (g l : List α) (N : Nat) (hN : g.length + l.length = N) (hs : a.eval s = v) (hown : W.ownsRow B e size v g.length (g.flatMap f)) (u : Value) (hx : a.eval x = u) (hu : Src W u l.length size (l.flatMap f)) (h1 : ∀ a ∈ l, ∀ v ∈ f a, v.oneCell' = true) (hlen : N ≤ 100000) (hB : B ≤ W.heap.size)
    (h : ∀ p c w1, w1.ownsRow B e size (.slice p N c) (g ++ l).length ((g ++ l).flatMap f) → Gr W v.ownBlock w1 → wpList Tryd.prog ops Q rest (a.put o.dst (.slice p N c)) w1) :
    wpList Tryd.prog ops Q (o :: rest) a W := by
  refine wl_rows f hgd s x t e ho i z size bytes ht hi hz hsize hby hzs hsz hb1 B v g l hs hown u hx hu h1 (by omega) hB ?_
  intro p c w1 h2 h3
  have e : (g ++ l).length = N := by rw [List.length_append]; exact hN
  rw [e] at h2 ⊢
  exact h p c w1 (by rw [e]; exact h2) h3
theorem own_new {w w' : World} {B s n : Nat} {e : TypeId} {v : Value} {xs : List Value} (h : w.ownsRow B e s v n xs) (hg : Gr w none w') : w'.ownsRow B e s v n xs := World.ownsRow.kept h hg (by cases v.ownBlock <;> simp)
theorem own_apart {w w' : World} {B' s s' n n' : Nat} {e e' : TypeId} {v v' : Value} {xs xs' : List Value} (h : w'.ownsRow w.heap.size e s v n xs) (h' : w.ownsRow B' e' s' v' n' xs') : v.ownBlock = none ∨ v.ownBlock ≠ v'.ownBlock := by
  cases hq : v.ownBlock with
  | none => exact .inl rfl
  | some y => exact .inr fun e => by have := own_ge h y hq; have := own_lt h' y e.symm; omega
theorem least_own {W : World} {B1 B2 n1 c1 n2 c2 : Nat} {p1 p2 : Option Addr} (fo st : Int) (ms : List Mem) (l : List Ack) (hK : Laid W) (hl : ∀ a ∈ l, a.ch.length = 32 ∧ a.ints) (hll : l.length ≤ 1000) (hml : ms.length ≤ 1000) (hmd : ∀ m ∈ ms, i64ok m.d)
    (h1 : OwnM W B1 (.slice p1 n1 c1) ms) (h2 : OwnA W B2 (.slice p2 n2 c2) l) :
    Calls Tryd.prog 19 #[.slice p1 n1 c1, .int .i64 fo, .int .i64 st, .slice p2 n2 c2] W fun e w' => e = .returned (.int .i64 (leastV fo st l ms)) ∧ Gr W none w' := by
  obtain ⟨q1, b1, d1, e1, k1⟩ := own_rows h1
  obtain ⟨q2, b2, d2, e2, k2⟩ := own_rows h2
  rw [e1, e2]
  exact least_at q1 q2 b1 0 b2 0 d1 d2 fo st ms l W hK hl hll hml hmd (k2.imp_right fun k => ⟨k.1, k.2.2⟩) (k1.imp_right fun k => ⟨k.1, k.2.2⟩)
theorem mem_range {w : World} {b : Nat} {ms : List Mem} (h : At w b 0 (ms.flatMap Mem.cells)) (i : Nat) (hi : i < ms.length) : w.rangeAt b (i * 3) (ms[i]).cells := by
  intro j v hv
  have hj : j < 3 := (List.getElem?_eq_some_iff.1 hv).1
  have := mem_cell h i hi j hj
  rw [Nat.zero_add] at this
  rw [this]; exact hv
/-- The same, and that from some world on nothing of it was written. -/
structure MG (XA XM : Nat) (a : Ack) (m : Mem) (w V W : World) : Prop where
  ms : MS XA XM a m w W
  gr : Gr V none W
theorem MG.on {XA XM : Nat} {a : Ack} {m : Mem} {w V W W' : World} (h : MG XA XM a m w V W) (k : Gr W none W') : MG XA XM a m w V W' := ⟨h.ms.on k, h.gr.trans k⟩
theorem MG.row {XA XM : Nat} {a : Ack} {m : Mem} {w V W W' : World} (h : MG XA XM a m w V W) {row : Option Nat} (k : Gr W row W') (hr : ∀ b, row = some b → w.heap.size ≤ b ∧ b ≠ XA ∧ b ≠ XM ∧ V.heap.size ≤ b) : MG XA XM a m w V W' :=
  ⟨h.ms.row k fun b e => ⟨(hr b e).1, (hr b e).2.1, (hr b e).2.2.1⟩, h.gr.on k fun b e => .inl (hr b e).2.2.2⟩
theorem MG.g0 {XA XM : Nat} {a : Ack} {m : Mem} {w V W : World} (h : MG XA XM a m w V W) : Gr w none W := h.ms.gr
theorem MG.all {XA XM : Nat} {a : Ack} {m : Mem} {w V W : World} (h : MG XA XM a m w V W) : W.rangeAt XA 0 a.cells ∧ W.rangeAt XM 0 m.cells ∧ MG XA XM a m w V W := ⟨h.ms.all.1, h.ms.all.2.1, h⟩
set_option maxHeartbeats 2000000 in
set_option maxRecDepth 100000 in
theorem more_walk (mp lp : Option Addr) (mb mo lb lo mc lc : Nat) (fo st : Int) (ms : List Mem) (l : List Ack) (a : Ack) (m : Mem) (w : World) (hK : Laid w) (hl : ∀ a ∈ l, a.ch.length = 32 ∧ a.ints) (hll : l.length ≤ 12) (hml : ms.length ≤ 6) (hmd : ∀ m ∈ ms, i64ok m.d)
    (ha : a.ch.length = 32) (hi : a.ints) (hm : i64ok m.d)
    (hlp : l = [] ∨ (lp = some ⟨lb, lo, none⟩ ∧ lb < w.heap.size ∧ At w lb lo (l.flatMap Ack.cells))) (hmp : ms = [] ∨ (mp = some ⟨mb, mo, none⟩ ∧ mb < w.heap.size ∧ At w mb mo (ms.flatMap Mem.cells))) (hls : ∀ W, Gr w none W → Src W (.slice lp l.length lc) l.length 38 (l.flatMap Ack.cells)) (hms : ∀ W, Gr w none W → Src W (.slice mp ms.length mc) ms.length 3 (ms.flatMap Mem.cells)) :
    Calls Tryd.prog 5 #[.slice mp ms.length mc, .int .i64 fo, .int .i64 st, .slice lp l.length lc, .agg a.cells.toArray, .agg m.cells.toArray] w fun e w' => e = .returned (.bool true) ∧ Gr w none w' := by
  have hfew := decide_eq_true (show ms.length ≤ 6 ∧ l.length ≤ 12 ∧ 0 ≤ 60 from ⟨hml, hll, by omega⟩)
  have hin : ((Tryd.prog).info? 27).map (·.size) = some a.cells.length := by rw [Ack.cells_length _ ha]; kernel_rfl
  have hMS0 : MS w.heap.size (w.heap.size + 1) a m w ((w.alloc (.cells a.cells.toArray 27)).alloc (.cells m.cells.toArray 47)) :=
    ⟨((Gr.refl w none).alloc _).alloc _, (Blk.new w 27 a.cells).alloc _, by have := Blk.new (w.alloc (.cells a.cells.toArray 27)) 47 m.cells; rwa [World.size_alloc] at this⟩
  have hLe := fun (W : World) (h : Gr w none W) => least_at mp lp mb mo lb lo mc lc fo st ms l W (hK.new h) hl (by omega) (by omega) hmd (hlp.imp_right fun k => ⟨k.1, Nat.lt_of_lt_of_le k.2.1 h.size, k.2.2.grown h (by simp)⟩) (hmp.imp_right fun k => ⟨k.1, Nat.lt_of_lt_of_le k.2.1 h.size, k.2.2.grown h (by simp)⟩)
  go_enter Tryd.func5, Tryd.ntmps5
  go_upto_region 1 with fail
  change Code.wp _ _ _ _ ((w.alloc (.cells a.cells.toArray 27)).alloc (.cells m.cells.toArray 47))
  generalize ((w.alloc (.cells a.cells.toArray 27)).alloc (.cells m.cells.toArray 47)) = W at *
  go_upto_region 6 with (first
    | (go_at_call 8; refine (sane_any W (hK.new hMS0.gr)).mono ?_; rintro e w1 ⟨rfl, hG1⟩)
    | (go_at_call 13; refine (few_any _ _ none _ _ 0 _ _ 0 w1).mono ?_; rintro e w2 ⟨rfl, hG2⟩; rw [hfew])
    | (go_at_call 19; refine (hLe w2 (hMS0.gr.trans (hG1.trans hG2))).mono ?_; rintro e w3 ⟨rfl, hG3⟩))
  have hMS1 := hMS0.on ((hG1.trans hG2).trans hG3)
  clear hMS0 hG1 hG2 hG3
  obtain ⟨ia, za, ia1, ia2, ia3, ia4, ia5⟩ := info_ack
  obtain ⟨im, zm, im1, im2, im3, im4, im5⟩ := info_mem
  have hu := Tryd.underlying27
  have hv := Tryd.underlying47
  have h38 := a.cells_length ha
  have hbw := build_whole a ha
  have h3 : m.cells.length = 3 := rfl
  have hbm : List.foldl (fun (cs : Array Value) (x : Value × Nat) => cs.setIfInBounds x.snd x.fst) #[.int .i64 0, .int .i64 0, .int .i64 0] m.cells.zipIdx = m.cells.toArray := rfl
  have hinm : ((Tryd.prog).info? 47).map (·.size) = some m.cells.length := by rw [h3]; kernel_rfl
  have hB1 : w.heap.size + 2 ≤ w3.heap.size := by have := hMS1.m.lt; omega
  go_cut [14] (fun v wx => ∃ p c, v = .slice p (l.length + 1) c ∧ OwnA wx w3.heap.size (.slice p (l.length + 1) c) (l ++ [a]) ∧ MS w.heap.size (w.heap.size + 1) a m w wx)
  case first =>
    refine wp_region_held_drew (S := fun w' => w'.rangeAt w.heap.size 0 a.cells ∧ w'.rangeAt (w.heap.size + 1) 0 m.cells ∧ MS w.heap.size (w.heap.size + 1) a m w w') (by kernel_rfl) (hMS1.on ((Gr.refl w3 none).drew)).all (fun hS => ?_)
    have hMd := hMS1.on ((Gr.refl w3 none).drew)
    refine wpAnyH_take (i := 1) (oi := { dst := some 32, op := _, type := _, pos := _, after := _, guard := _ }) (v := ?v1_93) rfl (by kernel_rfl) (by kernel_rfl) (by kernel_rfl) (fun _ _ _ h => h) (Or.inl ⟨by rfl, ?h1_93⟩) hS ?r1_93
    case h1_93 => intro w0 hw0; obtain ⟨s0⟩ := hw0; go_simp; try with_reducible rfl
    simp only [Act.put, List.setIfInBounds_toArray, List.set_cons_zero, List.set_cons_succ]
    refine wpAnyH_take (i := 3) (oi := { dst := some 34, op := _, type := _, pos := _, after := _, guard := _ }) (v := .agg a.cells.toArray) rfl (by kernel_rfl) (by kernel_rfl) (by kernel_rfl) (fun _ _ _ h => h) (yieldsIf_load_mid (by rfl) 27 _ rfl w.heap.size 0 (by rfl) a.cells _ (fun _ h => h.1) hu rfl hin) hS ?r3_96
    simp only [Act.put, List.setIfInBounds_toArray, List.set_cons_zero, List.set_cons_succ]
    refine wpAnyH_ready (rs := [0, 4]) (by kernel_rfl) (by simp) ?_
    refine AllReadyH.cons (o := { dst := some 31, op := _, type := _, pos := _, after := _, guard := _ }) rfl (fun K hK' => ?_) (AllReadyH.cons (o := { dst := some 35, op := _, type := _, pos := _, after := _, guard := _ }) rfl (fun K hK' => ?_) AllReadyH.nil)
    · have hz10 : w3.heap.size ≤ w3.drew.heap.size := Nat.le_refl _
      rw [if_pos (by rfl)]
      go_simp
      have hM1 := hMd.on ((Gr.refl w3.drew none).alloc (.cells #[] 27))
      have hO1 := own_empty w3.drew 27 38 w3.heap.size hz10 (.cells #[] 27) rfl
      have hz1 : w3.heap.size ≤ (w3.drew.alloc (.cells #[] 27)).heap.size := Nat.le_trans hz10 ((Gr.refl w3.drew none).alloc (.cells #[] 27)).size
      refine hK'.out _ _ hM1.all (fun hS1 => ?_)
      clear hK' K
      clear hS
      change wpAnyH _ _ _ _ _ _ _ _ (w3.drew.alloc (.cells #[] 27))
      generalize (w3.drew.alloc (.cells #[] 27)) = W1 at *
      refine wpAnyH_ready (rs := [2, 4]) (by kernel_rfl) (by simp) ?_
      refine AllReadyH.cons (o := { dst := some 33, op := _, type := _, pos := _, after := _, guard := _ }) rfl (fun K hK' => ?_) (AllReadyH.cons (o := { dst := some 35, op := _, type := _, pos := _, after := _, guard := _ }) rfl (fun K hK' => ?_) AllReadyH.nil)
      · skip
        refine step_rows Ack.cells (by rfl) _ _ 38 27 (by rfl) ia za 38 80 Tryd.underlying38 ia1 ia2 ia3 ia4 ia5 (by decide) (by decide) w3.heap.size _ [] l (by rfl) hO1 _ (by rfl) (hls W1 hM1.g0) (fun b _ => b.cells_one) (by simp only [List.length_append, List.length_nil, List.length_singleton]; omega) hz1 ?_
        intro p2 c2 W2 hO2 hG2
        have hM2 := hM1.row hG2 (fun b e => by have := own_ge hO1 b e; omega)
        have hz2 : w3.heap.size ≤ W2.heap.size := Nat.le_trans hz1 hG2.size
        refine hK'.out _ _ hM2.all (fun hS2 => ?_)
        clear hK' K
        refine wpAnyH_ready (rs := [4]) (by kernel_rfl) (by simp) ?_
        refine AllReadyH.cons (o := { dst := some 35, op := _, type := _, pos := _, after := _, guard := _ }) rfl (fun K hK' => ?_) AllReadyH.nil
        have hz30 := hz2
        rw [if_pos (by rfl)]
        go_simp
        have hM3 := hM2.on ((Gr.refl W2 none).alloc (.cells a.cells.toArray 27))
        have hA3 := at_new W2 a.cells 27
        have hz3 : w3.heap.size ≤ (W2.alloc (.cells a.cells.toArray 27)).heap.size := Nat.le_trans hz30 ((Gr.refl W2 none).alloc (.cells a.cells.toArray 27)).size
        have hO3 := hO2.alloc (.cells a.cells.toArray 27)
        refine hK'.out _ _ hM3.all (fun hS3 => ?_)
        clear hK' K
        refine wpAnyH_ready (rs := [5]) (by kernel_rfl) (by simp) ?_
        refine AllReadyH.cons (o := { dst := some 36, op := _, type := _, pos := _, after := _, guard := _ }) rfl (fun K hK' => ?_) AllReadyH.nil
        refine step_rows Ack.cells (by rfl) _ _ 38 27 (by rfl) ia za 38 80 Tryd.underlying38 ia1 ia2 ia3 ia4 ia5 (by decide) (by decide) w3.heap.size _ ([] ++ l) [a] (by rfl) hO3 _ (by rfl) (Src.at (by rw [List.flatMap_singleton, a.cells_length ha]; rfl) (by rw [List.flatMap_singleton]; exact hA3)) (fun b _ => b.cells_one) (by simp only [List.length_append, List.length_nil, List.length_singleton]; omega) hz3 ?_
        intro p4 c4 W4 hO4 hG4
        have hM4 := hM3.row hG4 (fun b e => by have := own_ge hO3 b e; omega)
        have hz4 : w3.heap.size ≤ W4.heap.size := Nat.le_trans hz3 hG4.size
        refine hK'.out _ _ hM4.all (fun hS4 => ?_)
        clear hK' K
        refine wpAnyH_take (i := 6) (oi := { dst := some 14, op := _, type := _, pos := _, after := _, guard := _ }) (v := ?v6_139) rfl (by kernel_rfl) (by kernel_rfl) (by kernel_rfl) (fun _ _ _ h => h) (Or.inl ⟨by rfl, ?h6_139⟩) hS4 ?r6_139
        case h6_139 => intro w0 hw0; obtain ⟨s0⟩ := hw0; go_simp; try with_reducible rfl
        simp only [Act.put, List.setIfInBounds_toArray, List.set_cons_zero, List.set_cons_succ]
        refine wpAnyH_done (by kernel_rfl) ?_ _
        go_wp2_with fail
        go_meet
        exact ⟨_, _, by first | rfl | (rw [List.length_append]; rfl), own_len hO4 (by simp) (by simp), hM4⟩
      · have hz20 := hz1
        rw [if_pos (by rfl)]
        go_simp
        have hM2 := hM1.on ((Gr.refl W1 none).alloc (.cells a.cells.toArray 27))
        have hA2 := at_new W1 a.cells 27
        have hz2 : w3.heap.size ≤ (W1.alloc (.cells a.cells.toArray 27)).heap.size := Nat.le_trans hz20 ((Gr.refl W1 none).alloc (.cells a.cells.toArray 27)).size
        have hO2 := hO1.alloc (.cells a.cells.toArray 27)
        refine hK'.out _ _ hM2.all (fun hS2 => ?_)
        clear hK' K
        clear hS1
        refine wpAnyH_ready (rs := [2]) (by kernel_rfl) (by simp) ?_
        refine AllReadyH.cons (o := { dst := some 33, op := _, type := _, pos := _, after := _, guard := _ }) rfl (fun K hK' => ?_) AllReadyH.nil
        refine step_rows Ack.cells (by rfl) _ _ 38 27 (by rfl) ia za 38 80 Tryd.underlying38 ia1 ia2 ia3 ia4 ia5 (by decide) (by decide) w3.heap.size _ [] l (by rfl) hO2 _ (by rfl) (hls _ hM2.g0) (fun b _ => b.cells_one) (by simp only [List.length_append, List.length_nil, List.length_singleton]; omega) hz2 ?_
        intro p3 c3 W3 hO3 hG3
        have hM3 := hM2.row hG3 (fun b e => by have := own_ge hO2 b e; omega)
        have hz3 : w3.heap.size ≤ W3.heap.size := Nat.le_trans hz2 hG3.size
        have hA3 := hA2.grown hG3 (fun e => by have h5 := own_lt hO1 _ e.symm; omega)
        refine hK'.out _ _ hM3.all (fun hS3 => ?_)
        clear hK' K
        refine wpAnyH_ready (rs := [5]) (by kernel_rfl) (by simp) ?_
        refine AllReadyH.cons (o := { dst := some 36, op := _, type := _, pos := _, after := _, guard := _ }) rfl (fun K hK' => ?_) AllReadyH.nil
        refine step_rows Ack.cells (by rfl) _ _ 38 27 (by rfl) ia za 38 80 Tryd.underlying38 ia1 ia2 ia3 ia4 ia5 (by decide) (by decide) w3.heap.size _ ([] ++ l) [a] (by rfl) hO3 _ (by rfl) (Src.at (by rw [List.flatMap_singleton, a.cells_length ha]; rfl) (by rw [List.flatMap_singleton]; exact hA3)) (fun b _ => b.cells_one) (by simp only [List.length_append, List.length_nil, List.length_singleton]; omega) hz3 ?_
        intro p4 c4 W4 hO4 hG4
        have hM4 := hM3.row hG4 (fun b e => by have := own_ge hO3 b e; omega)
        have hz4 : w3.heap.size ≤ W4.heap.size := Nat.le_trans hz3 hG4.size
        refine hK'.out _ _ hM4.all (fun hS4 => ?_)
        clear hK' K
        refine wpAnyH_take (i := 6) (oi := { dst := some 14, op := _, type := _, pos := _, after := _, guard := _ }) (v := ?v6_173) rfl (by kernel_rfl) (by kernel_rfl) (by kernel_rfl) (fun _ _ _ h => h) (Or.inl ⟨by rfl, ?h6_173⟩) hS4 ?r6_173
        case h6_173 => intro w0 hw0; obtain ⟨s0⟩ := hw0; go_simp; try with_reducible rfl
        simp only [Act.put, List.setIfInBounds_toArray, List.set_cons_zero, List.set_cons_succ]
        refine wpAnyH_done (by kernel_rfl) ?_ _
        go_wp2_with fail
        go_meet
        exact ⟨_, _, by first | rfl | (rw [List.length_append]; rfl), own_len hO4 (by simp) (by simp), hM4⟩
    · have hz10 : w3.heap.size ≤ w3.drew.heap.size := Nat.le_refl _
      rw [if_pos (by rfl)]
      go_simp
      have hM1 := hMd.on ((Gr.refl w3.drew none).alloc (.cells a.cells.toArray 27))
      have hA1 := at_new w3.drew a.cells 27
      have hz1 : w3.heap.size ≤ (w3.drew.alloc (.cells a.cells.toArray 27)).heap.size := Nat.le_trans hz10 ((Gr.refl w3.drew none).alloc (.cells a.cells.toArray 27)).size
      refine hK'.out _ _ hM1.all (fun hS1 => ?_)
      clear hK' K
      clear hS
      change wpAnyH _ _ _ _ _ _ _ _ (w3.drew.alloc (.cells a.cells.toArray 27))
      have hb1 : w3.heap.size < (w3.drew.alloc (.cells a.cells.toArray 27)).heap.size := by rw [World.size_alloc]; show w3.heap.size < w3.heap.size + 1; omega
      replace hA1 : At (w3.drew.alloc (.cells a.cells.toArray 27)) w3.heap.size 0 a.cells := hA1
      generalize (w3.drew.alloc (.cells a.cells.toArray 27)) = W1 at *
      refine wpAnyH_ready (rs := [0]) (by kernel_rfl) (by simp) ?_
      refine AllReadyH.cons (o := { dst := some 31, op := _, type := _, pos := _, after := _, guard := _ }) rfl (fun K hK' => ?_) AllReadyH.nil
      have hz20 := hz1
      rw [if_pos (by rfl)]
      go_simp
      have hM2 := hM1.on ((Gr.refl W1 none).alloc (.cells #[] 27))
      have hO2 := own_empty W1 27 38 w3.heap.size hz20 (.cells #[] 27) rfl
      have hz2 : w3.heap.size ≤ (W1.alloc (.cells #[] 27)).heap.size := Nat.le_trans hz20 ((Gr.refl W1 none).alloc (.cells #[] 27)).size
      have hA2 := hA1.grown ((Gr.refl W1 none).alloc (.cells #[] 27)) (by simp)
      refine hK'.out _ _ hM2.all (fun hS2 => ?_)
      clear hK' K
      clear hS1
      refine wpAnyH_ready (rs := [2]) (by kernel_rfl) (by simp) ?_
      refine AllReadyH.cons (o := { dst := some 33, op := _, type := _, pos := _, after := _, guard := _ }) rfl (fun K hK' => ?_) AllReadyH.nil
      refine step_rows Ack.cells (by rfl) _ _ 38 27 (by rfl) ia za 38 80 Tryd.underlying38 ia1 ia2 ia3 ia4 ia5 (by decide) (by decide) w3.heap.size _ [] l (by rfl) hO2 _ (by rfl) (hls _ hM2.g0) (fun b _ => b.cells_one) (by simp only [List.length_append, List.length_nil, List.length_singleton]; omega) hz2 ?_
      intro p3 c3 W3 hO3 hG3
      have hM3 := hM2.row hG3 (fun b e => by have := own_ge hO2 b e; omega)
      have hz3 : w3.heap.size ≤ W3.heap.size := Nat.le_trans hz2 hG3.size
      have hA3 := hA2.grown hG3 (fun e => by simp [Value.ownBlock] at e; omega)
      refine hK'.out _ _ hM3.all (fun hS3 => ?_)
      clear hK' K
      refine wpAnyH_ready (rs := [5]) (by kernel_rfl) (by simp) ?_
      refine AllReadyH.cons (o := { dst := some 36, op := _, type := _, pos := _, after := _, guard := _ }) rfl (fun K hK' => ?_) AllReadyH.nil
      refine step_rows Ack.cells (by rfl) _ _ 38 27 (by rfl) ia za 38 80 Tryd.underlying38 ia1 ia2 ia3 ia4 ia5 (by decide) (by decide) w3.heap.size _ ([] ++ l) [a] (by rfl) hO3 _ (by rfl) (Src.at (by rw [List.flatMap_singleton, a.cells_length ha]; rfl) (by rw [List.flatMap_singleton]; exact hA3)) (fun b _ => b.cells_one) (by simp only [List.length_append, List.length_nil, List.length_singleton]; omega) hz3 ?_
      intro p4 c4 W4 hO4 hG4
      have hM4 := hM3.row hG4 (fun b e => by have := own_ge hO3 b e; omega)
      have hz4 : w3.heap.size ≤ W4.heap.size := Nat.le_trans hz3 hG4.size
      refine hK'.out _ _ hM4.all (fun hS4 => ?_)
      clear hK' K
      refine wpAnyH_take (i := 6) (oi := { dst := some 14, op := _, type := _, pos := _, after := _, guard := _ }) (v := ?v6_222) rfl (by kernel_rfl) (by kernel_rfl) (by kernel_rfl) (fun _ _ _ h => h) (Or.inl ⟨by rfl, ?h6_222⟩) hS4 ?r6_222
      case h6_222 => intro w0 hw0; obtain ⟨s0⟩ := hw0; go_simp; try with_reducible rfl
      simp only [Act.put, List.setIfInBounds_toArray, List.set_cons_zero, List.set_cons_succ]
      refine wpAnyH_done (by kernel_rfl) ?_ _
      go_wp2_with fail
      go_meet
      exact ⟨_, _, by first | rfl | (rw [List.length_append]; rfl), own_len hO4 (by simp) (by simp), hM4⟩
  case rest =>
    obtain ⟨pa, ca, rfl, hOA, hMS2⟩ := hcut
    clear hMS1
    generalize wc = w4 at *
    go_upto_region 7 with fail
    have hMG : MG w.heap.size (w.heap.size + 1) a m w w4 w4 := ⟨hMS2, Gr.refl _ _⟩
    have hB2 : w.heap.size + 2 ≤ w4.heap.size := by have := hMS2.m.lt; omega
    go_cut [15] (fun v wx => ∃ p c, v = .slice p (ms.length + 1) c ∧ OwnM wx w4.heap.size (.slice p (ms.length + 1) c) (ms ++ [m]) ∧ MG w.heap.size (w.heap.size + 1) a m w w4 wx)
    case first =>
      refine wp_region_held_drew (S := fun w' => w'.rangeAt w.heap.size 0 a.cells ∧ w'.rangeAt (w.heap.size + 1) 0 m.cells ∧ MG w.heap.size (w.heap.size + 1) a m w w4 w') (by kernel_rfl) (hMG.on ((Gr.refl w4 none).drew)).all (fun hS => ?_)
      have hMd := hMG.on ((Gr.refl w4 none).drew)
      refine wpAnyH_take (i := 1) (oi := { dst := some 38, op := _, type := _, pos := _, after := _, guard := _ }) (v := ?v1_240) rfl (by kernel_rfl) (by kernel_rfl) (by kernel_rfl) (fun _ _ _ h => h) (Or.inl ⟨by rfl, ?h1_240⟩) hS ?r1_240
      case h1_240 => intro w0 hw0; obtain ⟨s0⟩ := hw0; go_simp; try with_reducible rfl
      simp only [Act.put, List.setIfInBounds_toArray, List.set_cons_zero, List.set_cons_succ]
      refine wpAnyH_take (i := 3) (oi := { dst := some 40, op := _, type := _, pos := _, after := _, guard := _ }) (v := .agg m.cells.toArray) rfl (by kernel_rfl) (by kernel_rfl) (by kernel_rfl) (fun _ _ _ h => h) (yieldsIf_load_mid (by rfl) 47 _ rfl (w.heap.size+1) 0 (by rfl) m.cells _ (fun _ h => h.2.1) hv rfl hinm) hS ?r3_243
      simp only [Act.put, List.setIfInBounds_toArray, List.set_cons_zero, List.set_cons_succ]
      refine wpAnyH_ready (rs := [0, 4]) (by kernel_rfl) (by simp) ?_
      refine AllReadyH.cons (o := { dst := some 37, op := _, type := _, pos := _, after := _, guard := _ }) rfl (fun K hK' => ?_) (AllReadyH.cons (o := { dst := some 41, op := _, type := _, pos := _, after := _, guard := _ }) rfl (fun K hK' => ?_) AllReadyH.nil)
      · have hz10 : w4.heap.size ≤ w4.drew.heap.size := Nat.le_refl _
        rw [if_pos (by rfl)]
        go_simp
        have hM1 := hMd.on ((Gr.refl w4.drew none).alloc (.cells #[] 47))
        have hO1 := own_empty w4.drew 47 3 w4.heap.size hz10 (.cells #[] 47) rfl
        have hz1 : w4.heap.size ≤ (w4.drew.alloc (.cells #[] 47)).heap.size := Nat.le_trans hz10 ((Gr.refl w4.drew none).alloc (.cells #[] 47)).size
        refine hK'.out _ _ hM1.all (fun hS1 => ?_)
        clear hK' K
        clear hS
        change wpAnyH _ _ _ _ _ _ _ _ (w4.drew.alloc (.cells #[] 47))
        generalize (w4.drew.alloc (.cells #[] 47)) = W1 at *
        refine wpAnyH_ready (rs := [2, 4]) (by kernel_rfl) (by simp) ?_
        refine AllReadyH.cons (o := { dst := some 39, op := _, type := _, pos := _, after := _, guard := _ }) rfl (fun K hK' => ?_) (AllReadyH.cons (o := { dst := some 41, op := _, type := _, pos := _, after := _, guard := _ }) rfl (fun K hK' => ?_) AllReadyH.nil)
        · skip
          refine step_rows Mem.cells (by rfl) _ _ 37 47 (by rfl) im zm 3 24 Tryd.underlying37 im1 im2 im3 im4 im5 (by decide) (by decide) w4.heap.size _ [] ms (by rfl) hO1 _ (by rfl) (hms W1 hM1.g0) (fun b _ => b.cells_one) (by simp only [List.length_append, List.length_nil, List.length_singleton]; omega) hz1 ?_
          intro p2 c2 W2 hO2 hG2
          have hM2 := hM1.row hG2 (fun b e => by have := own_ge hO1 b e; omega)
          have hz2 : w4.heap.size ≤ W2.heap.size := Nat.le_trans hz1 hG2.size
          refine hK'.out _ _ hM2.all (fun hS2 => ?_)
          clear hK' K
          refine wpAnyH_ready (rs := [4]) (by kernel_rfl) (by simp) ?_
          refine AllReadyH.cons (o := { dst := some 41, op := _, type := _, pos := _, after := _, guard := _ }) rfl (fun K hK' => ?_) AllReadyH.nil
          have hz30 := hz2
          rw [if_pos (by rfl)]
          go_simp
          have hM3 := hM2.on ((Gr.refl W2 none).alloc (.cells m.cells.toArray 47))
          have hA3 := at_new W2 m.cells 47
          have hz3 : w4.heap.size ≤ (W2.alloc (.cells m.cells.toArray 47)).heap.size := Nat.le_trans hz30 ((Gr.refl W2 none).alloc (.cells m.cells.toArray 47)).size
          have hO3 := hO2.alloc (.cells m.cells.toArray 47)
          refine hK'.out _ _ hM3.all (fun hS3 => ?_)
          clear hK' K
          refine wpAnyH_ready (rs := [5]) (by kernel_rfl) (by simp) ?_
          refine AllReadyH.cons (o := { dst := some 42, op := _, type := _, pos := _, after := _, guard := _ }) rfl (fun K hK' => ?_) AllReadyH.nil
          refine step_rows Mem.cells (by rfl) _ _ 37 47 (by rfl) im zm 3 24 Tryd.underlying37 im1 im2 im3 im4 im5 (by decide) (by decide) w4.heap.size _ ([] ++ ms) [m] (by rfl) hO3 _ (by rfl) (Src.at (by rw [List.flatMap_singleton, h3]; rfl) (by rw [List.flatMap_singleton]; exact hA3)) (fun b _ => b.cells_one) (by simp only [List.length_append, List.length_nil, List.length_singleton]; omega) hz3 ?_
          intro p4 c4 W4 hO4 hG4
          have hM4 := hM3.row hG4 (fun b e => by have := own_ge hO3 b e; omega)
          have hz4 : w4.heap.size ≤ W4.heap.size := Nat.le_trans hz3 hG4.size
          refine hK'.out _ _ hM4.all (fun hS4 => ?_)
          clear hK' K
          refine wpAnyH_take (i := 6) (oi := { dst := some 15, op := _, type := _, pos := _, after := _, guard := _ }) (v := ?v6_286) rfl (by kernel_rfl) (by kernel_rfl) (by kernel_rfl) (fun _ _ _ h => h) (Or.inl ⟨by rfl, ?h6_286⟩) hS4 ?r6_286
          case h6_286 => intro w0 hw0; obtain ⟨s0⟩ := hw0; go_simp; try with_reducible rfl
          simp only [Act.put, List.setIfInBounds_toArray, List.set_cons_zero, List.set_cons_succ]
          refine wpAnyH_done (by kernel_rfl) ?_ _
          go_wp2_with fail
          go_meet
          exact ⟨_, _, by first | rfl | (rw [List.length_append]; rfl), own_len hO4 (by simp) (by simp), hM4⟩
        · have hz20 := hz1
          rw [if_pos (by rfl)]
          go_simp
          have hM2 := hM1.on ((Gr.refl W1 none).alloc (.cells m.cells.toArray 47))
          have hA2 := at_new W1 m.cells 47
          have hz2 : w4.heap.size ≤ (W1.alloc (.cells m.cells.toArray 47)).heap.size := Nat.le_trans hz20 ((Gr.refl W1 none).alloc (.cells m.cells.toArray 47)).size
          have hO2 := hO1.alloc (.cells m.cells.toArray 47)
          refine hK'.out _ _ hM2.all (fun hS2 => ?_)
          clear hK' K
          clear hS1
          refine wpAnyH_ready (rs := [2]) (by kernel_rfl) (by simp) ?_
          refine AllReadyH.cons (o := { dst := some 39, op := _, type := _, pos := _, after := _, guard := _ }) rfl (fun K hK' => ?_) AllReadyH.nil
          refine step_rows Mem.cells (by rfl) _ _ 37 47 (by rfl) im zm 3 24 Tryd.underlying37 im1 im2 im3 im4 im5 (by decide) (by decide) w4.heap.size _ [] ms (by rfl) hO2 _ (by rfl) (hms _ hM2.g0) (fun b _ => b.cells_one) (by simp only [List.length_append, List.length_nil, List.length_singleton]; omega) hz2 ?_
          intro p3 c3 W3 hO3 hG3
          have hM3 := hM2.row hG3 (fun b e => by have := own_ge hO2 b e; omega)
          have hz3 : w4.heap.size ≤ W3.heap.size := Nat.le_trans hz2 hG3.size
          have hA3 := hA2.grown hG3 (fun e => by have h5 := own_lt hO1 _ e.symm; omega)
          refine hK'.out _ _ hM3.all (fun hS3 => ?_)
          clear hK' K
          refine wpAnyH_ready (rs := [5]) (by kernel_rfl) (by simp) ?_
          refine AllReadyH.cons (o := { dst := some 42, op := _, type := _, pos := _, after := _, guard := _ }) rfl (fun K hK' => ?_) AllReadyH.nil
          refine step_rows Mem.cells (by rfl) _ _ 37 47 (by rfl) im zm 3 24 Tryd.underlying37 im1 im2 im3 im4 im5 (by decide) (by decide) w4.heap.size _ ([] ++ ms) [m] (by rfl) hO3 _ (by rfl) (Src.at (by rw [List.flatMap_singleton, h3]; rfl) (by rw [List.flatMap_singleton]; exact hA3)) (fun b _ => b.cells_one) (by simp only [List.length_append, List.length_nil, List.length_singleton]; omega) hz3 ?_
          intro p4 c4 W4 hO4 hG4
          have hM4 := hM3.row hG4 (fun b e => by have := own_ge hO3 b e; omega)
          have hz4 : w4.heap.size ≤ W4.heap.size := Nat.le_trans hz3 hG4.size
          refine hK'.out _ _ hM4.all (fun hS4 => ?_)
          clear hK' K
          refine wpAnyH_take (i := 6) (oi := { dst := some 15, op := _, type := _, pos := _, after := _, guard := _ }) (v := ?v6_320) rfl (by kernel_rfl) (by kernel_rfl) (by kernel_rfl) (fun _ _ _ h => h) (Or.inl ⟨by rfl, ?h6_320⟩) hS4 ?r6_320
          case h6_320 => intro w0 hw0; obtain ⟨s0⟩ := hw0; go_simp; try with_reducible rfl
          simp only [Act.put, List.setIfInBounds_toArray, List.set_cons_zero, List.set_cons_succ]
          refine wpAnyH_done (by kernel_rfl) ?_ _
          go_wp2_with fail
          go_meet
          exact ⟨_, _, by first | rfl | (rw [List.length_append]; rfl), own_len hO4 (by simp) (by simp), hM4⟩
      · have hz10 : w4.heap.size ≤ w4.drew.heap.size := Nat.le_refl _
        rw [if_pos (by rfl)]
        go_simp
        have hM1 := hMd.on ((Gr.refl w4.drew none).alloc (.cells m.cells.toArray 47))
        have hA1 := at_new w4.drew m.cells 47
        have hz1 : w4.heap.size ≤ (w4.drew.alloc (.cells m.cells.toArray 47)).heap.size := Nat.le_trans hz10 ((Gr.refl w4.drew none).alloc (.cells m.cells.toArray 47)).size
        refine hK'.out _ _ hM1.all (fun hS1 => ?_)
        clear hK' K
        clear hS
        change wpAnyH _ _ _ _ _ _ _ _ (w4.drew.alloc (.cells m.cells.toArray 47))
        have hb1 : w4.heap.size < (w4.drew.alloc (.cells m.cells.toArray 47)).heap.size := by rw [World.size_alloc]; show w4.heap.size < w4.heap.size + 1; omega
        replace hA1 : At (w4.drew.alloc (.cells m.cells.toArray 47)) w4.heap.size 0 m.cells := hA1
        generalize (w4.drew.alloc (.cells m.cells.toArray 47)) = W1 at *
        refine wpAnyH_ready (rs := [0]) (by kernel_rfl) (by simp) ?_
        refine AllReadyH.cons (o := { dst := some 37, op := _, type := _, pos := _, after := _, guard := _ }) rfl (fun K hK' => ?_) AllReadyH.nil
        have hz20 := hz1
        rw [if_pos (by rfl)]
        go_simp
        have hM2 := hM1.on ((Gr.refl W1 none).alloc (.cells #[] 47))
        have hO2 := own_empty W1 47 3 w4.heap.size hz20 (.cells #[] 47) rfl
        have hz2 : w4.heap.size ≤ (W1.alloc (.cells #[] 47)).heap.size := Nat.le_trans hz20 ((Gr.refl W1 none).alloc (.cells #[] 47)).size
        have hA2 := hA1.grown ((Gr.refl W1 none).alloc (.cells #[] 47)) (by simp)
        refine hK'.out _ _ hM2.all (fun hS2 => ?_)
        clear hK' K
        clear hS1
        refine wpAnyH_ready (rs := [2]) (by kernel_rfl) (by simp) ?_
        refine AllReadyH.cons (o := { dst := some 39, op := _, type := _, pos := _, after := _, guard := _ }) rfl (fun K hK' => ?_) AllReadyH.nil
        refine step_rows Mem.cells (by rfl) _ _ 37 47 (by rfl) im zm 3 24 Tryd.underlying37 im1 im2 im3 im4 im5 (by decide) (by decide) w4.heap.size _ [] ms (by rfl) hO2 _ (by rfl) (hms _ hM2.g0) (fun b _ => b.cells_one) (by simp only [List.length_append, List.length_nil, List.length_singleton]; omega) hz2 ?_
        intro p3 c3 W3 hO3 hG3
        have hM3 := hM2.row hG3 (fun b e => by have := own_ge hO2 b e; omega)
        have hz3 : w4.heap.size ≤ W3.heap.size := Nat.le_trans hz2 hG3.size
        have hA3 := hA2.grown hG3 (fun e => by simp [Value.ownBlock] at e; omega)
        refine hK'.out _ _ hM3.all (fun hS3 => ?_)
        clear hK' K
        refine wpAnyH_ready (rs := [5]) (by kernel_rfl) (by simp) ?_
        refine AllReadyH.cons (o := { dst := some 42, op := _, type := _, pos := _, after := _, guard := _ }) rfl (fun K hK' => ?_) AllReadyH.nil
        refine step_rows Mem.cells (by rfl) _ _ 37 47 (by rfl) im zm 3 24 Tryd.underlying37 im1 im2 im3 im4 im5 (by decide) (by decide) w4.heap.size _ ([] ++ ms) [m] (by rfl) hO3 _ (by rfl) (Src.at (by rw [List.flatMap_singleton, h3]; rfl) (by rw [List.flatMap_singleton]; exact hA3)) (fun b _ => b.cells_one) (by simp only [List.length_append, List.length_nil, List.length_singleton]; omega) hz3 ?_
        intro p4 c4 W4 hO4 hG4
        have hM4 := hM3.row hG4 (fun b e => by have := own_ge hO3 b e; omega)
        have hz4 : w4.heap.size ≤ W4.heap.size := Nat.le_trans hz3 hG4.size
        refine hK'.out _ _ hM4.all (fun hS4 => ?_)
        clear hK' K
        refine wpAnyH_take (i := 6) (oi := { dst := some 15, op := _, type := _, pos := _, after := _, guard := _ }) (v := ?v6_369) rfl (by kernel_rfl) (by kernel_rfl) (by kernel_rfl) (fun _ _ _ h => h) (Or.inl ⟨by rfl, ?h6_369⟩) hS4 ?r6_369
        case h6_369 => intro w0 hw0; obtain ⟨s0⟩ := hw0; go_simp; try with_reducible rfl
        simp only [Act.put, List.setIfInBounds_toArray, List.set_cons_zero, List.set_cons_succ]
        refine wpAnyH_done (by kernel_rfl) ?_ _
        go_wp2_with fail
        go_meet
        exact ⟨_, _, by first | rfl | (rw [List.length_append]; rfl), own_len hO4 (by simp) (by simp), hM4⟩
    case rest =>
      obtain ⟨pm, cm, rfl, hOM, hMG2⟩ := hcut
      generalize wc = w5 at *
      obtain ⟨pa', bA, ca', e, hA5⟩ := own_rows (World.ownsRow.kept hOA hMG2.gr (by cases (Value.slice pa (l.length + 1) ca).ownBlock <;> simp))
      simp only [Value.slice.injEq] at e
      obtain ⟨rfl, h0, rfl⟩ := e; clear h0
      obtain ⟨rfl, hbA, hltA, hAtA⟩ := hA5.resolve_left (by simp)
      obtain ⟨pm', bM, cm', e, hM5⟩ := own_rows hOM
      simp only [Value.slice.injEq] at e
      obtain ⟨rfl, h0, rfl⟩ := e; clear h0
      obtain ⟨rfl, hbM, hltM, hAtM⟩ := hM5.resolve_left (by simp)
      have hG5 := hMG2.ms.gr
      have hlx : ∀ x ∈ l ++ [a], x.ch.length = 32 ∧ x.ints := by
        intro x hx
        rcases List.mem_append.1 hx with h | h
        · exact hl x h
        · rw [List.mem_singleton.1 h]; exact ⟨ha, hi⟩
      have hmx : ∀ x ∈ ms ++ [m], i64ok x.d := by
        intro x hx
        rcases List.mem_append.1 hx with h | h
        · exact hmd x h
        · rw [List.mem_singleton.1 h]; exact hm
      have hL1 : ∀ W, Gr w5 none W → Calls Tryd.prog 19 #[.slice mp ms.length mc, .int .i64 fo, .int .i64 st, .slice (some ⟨bA, 0, none⟩) (l.length + 1) ca] W fun e w' => e = .returned (.int .i64 (leastV fo st (l ++ [a]) ms)) ∧ Gr W none w' := by
        intro W h
        have := least_at mp (some ⟨bA, 0, none⟩) mb mo bA 0 mc ca fo st ms (l ++ [a]) W (hK.new (hG5.trans h)) hlx (by simp; omega) (by omega) hmd (.inr ⟨rfl, Nat.lt_of_lt_of_le hltA h.size, hAtA.grown h (by simp)⟩) (hmp.imp_right fun k => ⟨k.1, Nat.lt_of_lt_of_le k.2.1 (hG5.trans h).size, k.2.2.grown (hG5.trans h) (by simp)⟩)
        rwa [List.length_append, List.length_singleton] at this
      have hL2 : ∀ W, Gr w5 none W → Calls Tryd.prog 19 #[.slice (some ⟨bM, 0, none⟩) (ms.length + 1) cm, .int .i64 fo, .int .i64 st, .slice lp l.length lc] W fun e w' => e = .returned (.int .i64 (leastV fo st l (ms ++ [m]))) ∧ Gr W none w' := by
        intro W h
        have := least_at (some ⟨bM, 0, none⟩) lp bM 0 lb lo cm lc fo st (ms ++ [m]) l W (hK.new (hG5.trans h)) hl (by omega) (by simp; omega) hmx (hlp.imp_right fun k => ⟨k.1, Nat.lt_of_lt_of_le k.2.1 (hG5.trans h).size, k.2.2.grown (hG5.trans h) (by simp)⟩) (.inr ⟨rfl, Nat.lt_of_lt_of_le hltM h.size, hAtM.grown h (by simp)⟩)
        rwa [List.length_append, List.length_singleton] at this
      have hL3 : ∀ W, Gr w5 none W → Calls Tryd.prog 19 #[.slice (some ⟨bM, 0, none⟩) (ms.length + 1) cm, .int .i64 fo, .int .i64 st, .slice (some ⟨bA, 0, none⟩) (l.length + 1) ca] W fun e w' => e = .returned (.int .i64 (leastV fo st (l ++ [a]) (ms ++ [m]))) ∧ Gr W none w' := by
        intro W h
        have := least_at (some ⟨bM, 0, none⟩) (some ⟨bA, 0, none⟩) bM 0 bA 0 cm ca fo st (ms ++ [m]) (l ++ [a]) W (hK.new (hG5.trans h)) hlx (by simp; omega) (by simp; omega) hmx (.inr ⟨rfl, Nat.lt_of_lt_of_le hltA h.size, hAtA.grown h (by simp)⟩) (.inr ⟨rfl, Nat.lt_of_lt_of_le hltM h.size, hAtM.grown h (by simp)⟩)
        rwa [List.length_append, List.length_singleton, List.length_append, List.length_singleton] at this
      have n0 : ¬ leastV fo st l ms < 0 := by have := least_zero fo st l ms; omega
      have n1 : ¬ (65536 : Int) < leastV fo st l ms := by have := least_top fo st l ms; omega
      have n2 : ¬ leastV fo st (l ++ [a]) ms < leastV fo st l ms := by have := least_mono fo st l (l ++ [a]) ms (fun x hx => List.mem_append.2 (.inl hx)); omega
      have d0 := Lib.hid (decide_eq_false n0)
      have d1 := Lib.hid (decide_eq_false n1)
      have d2 := Lib.hid (decide_eq_false n2)
      go_upto_region 8 with fail
      go_cut [71] (fun v wx => v = .bool false ∧ Gr w5 none wx)
      case first =>
        by_cases hms : 0 < ms.length
        · have hms' : (0 : Int) < (ms.length : Int) := by omega
          have n3 : ¬ leastV fo st l ms < leastV fo st l (ms ++ [m]) := by have := least_anti fo st l ms (ms ++ [m]) (by intro e; rw [e] at hms; simp at hms) (fun x hx => List.mem_append.2 (.inl hx)); omega
          have d3 := Lib.hid (decide_eq_false n3)
          go_wp2_with (first
            | (go_at_call 19; (with_reducible refine (hL1 _ (Gr.refl _ _)).mono ?_); rintro e w6 ⟨rfl, hG6⟩)
            | (go_at_call 19; (with_reducible refine (hL2 _ hG6).mono ?_); rintro e w7 ⟨rfl, hG7⟩))
          go_meet
          exact ⟨by rw [d2.out, d3.out, d0.out, d1.out]; rfl, hG6.trans hG7⟩
        · have hms' : ¬ (0 : Int) < (ms.length : Int) := by omega
          go_wp2_with (first
            | (go_at_call 19; (with_reducible refine (hL1 _ (Gr.refl _ _)).mono ?_); rintro e w6 ⟨rfl, hG6⟩))
          go_meet
          exact ⟨by rw [d2.out, d0.out, d1.out]; rfl, hG6⟩
      case rest =>
        obtain ⟨rfl, hG6⟩ := hcut
        generalize wc = w6 at *
        have HL2 := Lib.hid hL3
        have HLX := Lib.hid hlx
        have HMX := Lib.hid hmx
        have HAt := Lib.hid hAtA
        have HMt := Lib.hid hAtM
        have HK := Lib.hid hK
        clear hL1 hL2 hL3 hlx hmx hl hmd hls hms hA5 hM5 hAtA hAtM hOA hOM hlp hmp hLe n0 n1 n2 hMS2 hMG
        go_wp2_with fail
        go_loopw [74, 16] (fun i v wr => ∃ (k : Nat) (p : Option Addr) (c : Nat), k ≤ l.length + 1 ∧ i = .int .i64 k ∧ v = .slice p k c ∧ OwnA wr w6.heap.size (.slice p k c) ((l ++ [a]).reverse.take k) ∧ Gr w6 none wr) (fun i _ _ => (l.length + 1 - intOf i).toNat)
        case atStart => exact ⟨0, none, 0, by omega, rfl, rfl, World.ownsRow_nil _ _ _ _, Gr.refl _ _⟩
        case round =>
          obtain ⟨k, p, c, hk, rfl, rfl, hO, hG⟩ := hrel
          by_cases hlt : k < l.length + 1
          · have hlt' : (k : Int) < (l.length : Int) + 1 := by omega
            obtain ⟨q, hq, hql⟩ : ∃ q : Nat, (l.length : Int) - (k : Int) = (q : Int) ∧ q = l.length - k := ⟨l.length - k, by omega, rfl⟩
            have hqx : q < (l ++ [a]).length := by simp; omega
            have hR := ack_range (HAt.out.grown (hG6.trans hG) (by simp)) (fun x hx => (HLX.out x hx).1) q hqx
            have hxl := HLX.out _ (List.getElem_mem hqx)
            have hT := Lib.hid (show (l ++ [a]).reverse.take (k + 1) = (l ++ [a]).reverse.take k ++ [(l ++ [a])[q]] by
              have h1 : k < (l ++ [a]).reverse.length := by simp; omega
              rw [← List.take_append_getElem h1, List.getElem_reverse]
              congr 3
              simp
              omega)
            generalize (l ++ [a])[q] = x at *
            have hq0 : (0 : Int) ≤ (q : Int) := by omega
            have hq1 : (q : Int) < (l.length : Int) + 1 := by omega
            have hx38 := x.cells_length hxl.1
            have hinx : ((Tryd.prog).info? 27).map (·.size) = some x.cells.length := by rw [hx38]; kernel_rfl
            have hbx := build_whole x hxl.1
            have HXI := Lib.hid hxl.1
            clear hxl hqx hql
            have hO4 := hO.alloc (.cells x.cells.toArray 27)
            have hA4 := at_new wr x.cells 27
            have hB4 : w6.heap.size ≤ (wr.alloc (.cells x.cells.toArray 27)).heap.size := Nat.le_trans hG.size ((Gr.refl wr none).alloc _).size
            have hkl : (List.take k (l ++ [a]).reverse).length + [x].length = k + 1 := by simp; omega
            have HKL := Lib.hid hkl
            clear hkl
            go_wp2_with (first
              | (refine wpList_load_mid rfl _ _ rfl bA (q * 38) rfl x.cells _ hR hu rfl hinx ?_)
              | (refine wl_build_ack (by rfl) (.tmp 85) rfl x HXI.out rfl ?_)
              | (at_builtin; refine wl_rows_n Ack.cells rfl _ _ 38 27 rfl ia za 38 80 Tryd.underlying38 ia1 ia2 ia3 ia4 ia5 (by decide) (by decide) w6.heap.size _ (List.take k (l ++ [a]).reverse) [x] (k + 1) HKL.out rfl hO4 _ rfl (Src.at (by simp [hx38]) (by rw [List.flatMap_singleton]; exact hA4)) (fun b _ => b.cells_one) (by omega) hB4 ?_; intro p5 c5 w8 hO8 hG8))
            have hG9 : Gr w6 none w8 := (hG.alloc (.cells x.cells.toArray 27)).on hG8 (fun b e => .inl (own_ge hO4 b e))
            go_roundw
            case rel => exact ⟨k + 1, p5, c5, by omega, int_eq (by omega), rfl, by rw [hT.out]; exact hO8, hG9⟩
            case measure => simp [intOf]; omega
          · obtain rfl : k = l.length + 1 := by omega
            rw [List.take_of_length_le (by simp)] at hO
            clear hlt
            generalize wr = w7 at *
            have HOT := Lib.hid hO
            clear hO
            go_wp2_with fail
            go_loopw [91, 18] (fun i v wr => ∃ (k : Nat) (p : Option Addr) (c : Nat), k ≤ ms.length + 1 ∧ i = .int .i64 k ∧ v = .slice p k c ∧ OwnM wr w7.heap.size (.slice p k c) ((ms ++ [m]).reverse.take k) ∧ Gr w7 none wr) (fun i _ _ => (ms.length + 1 - intOf i).toNat)
            case atStart => exact ⟨0, none, 0, by omega, rfl, rfl, World.ownsRow_nil _ _ _ _, Gr.refl _ _⟩
            case round =>
              obtain ⟨k, p, c, hk, rfl, rfl, hO, hG2⟩ := hrel
              have hG7 := (hG6.trans hG).trans hG2
              by_cases hlt : k < ms.length + 1
              · have hlt' : (k : Int) < (ms.length : Int) + 1 := by omega
                obtain ⟨q, hq, hql⟩ : ∃ q : Nat, (ms.length : Int) - (k : Int) = (q : Int) ∧ q = ms.length - k := ⟨ms.length - k, by omega, rfl⟩
                have hqx : q < (ms ++ [m]).length := by simp; omega
                have hR := mem_range (HMt.out.grown hG7 (by simp)) q hqx
                have hT := Lib.hid (show (ms ++ [m]).reverse.take (k + 1) = (ms ++ [m]).reverse.take k ++ [(ms ++ [m])[q]] by
                  have h1 : k < (ms ++ [m]).reverse.length := by simp; omega
                  rw [← List.take_append_getElem h1, List.getElem_reverse]
                  congr 3
                  simp
                  omega)
                generalize (ms ++ [m])[q] = x at *
                have hq0 : (0 : Int) ≤ (q : Int) := by omega
                have hq1 : (q : Int) < (ms.length : Int) + 1 := by omega
                have hinx : ((Tryd.prog).info? 47).map (·.size) = some x.cells.length := by rw [show x.cells.length = 3 from rfl]; kernel_rfl
                clear hqx hql
                have hO4 := hO.alloc (.cells x.cells.toArray 47)
                have hA4 := at_new wr x.cells 47
                have hB4 : w7.heap.size ≤ (wr.alloc (.cells x.cells.toArray 47)).heap.size := Nat.le_trans hG2.size ((Gr.refl wr none).alloc _).size
                have hkl : (List.take k (ms ++ [m]).reverse).length + [x].length = k + 1 := by simp; omega
                have HKL := Lib.hid hkl
                clear hkl
                go_wp2_with (first
                  | (refine wpList_load_mid rfl _ _ rfl bM (q * 3) rfl x.cells _ hR hv rfl hinx ?_)
                  | (refine wl_build_mem (by rfl) (.tmp 102) rfl x rfl ?_)
                  | (at_builtin; refine wl_rows_n Mem.cells rfl _ _ 37 47 rfl im zm 3 24 Tryd.underlying37 im1 im2 im3 im4 im5 (by decide) (by decide) w7.heap.size _ (List.take k (ms ++ [m]).reverse) [x] (k + 1) HKL.out rfl hO4 _ rfl (Src.at rfl (by rw [List.flatMap_singleton]; exact hA4)) (fun b _ => b.cells_one) (by omega) hB4 ?_; intro p5 c5 w8 hO8 hG8))
                have hG9 : Gr w7 none w8 := (hG2.alloc (.cells x.cells.toArray 47)).on hG8 (fun b e => .inl (own_ge hO4 b e))
                go_roundw
                case rel => exact ⟨_, _, _, ⟨k + 1, by omega, int_eq (by omega), p5, c5, rfl, by rw [show m :: ms.reverse = (ms ++ [m]).reverse by simp, hT.out]; exact hO8, hG9⟩, rfl, rfl, rfl⟩
                case measure => simp [intOf]; omega
              · obtain rfl : k = ms.length + 1 := by omega
                rw [List.take_of_length_le (by simp)] at hO
                clear hlt
                generalize wr = w8 at *
                have hA8 := (hMG2.on hG7).ms.a
                have hOT := own_new HOT.out hG2
                have hO7 : OwnA (w8.alloc (.cells a.cells.toArray 27)) w6.heap.size _ (l ++ [a]).reverse := hOT.alloc (.cells a.cells.toArray 27)
                have hA7 := at_new w8 a.cells 27
                have hB7 : w6.heap.size ≤ (w8.alloc (.cells a.cells.toArray 27)).heap.size := Nat.le_trans (hG.trans hG2).size ((Gr.refl w8 none).alloc _).size
                have hlen : (l ++ [a]).reverse.length + [a].length = l.length + 2 := by simp
                have HLN := Lib.hid hlen
                clear hlen
                have HE := Lib.hid (least_turned fo st l a ms m)
                go_wp2_with (first
                  | (refine wl_load_blk rfl 27 _ rfl w.heap.size a.cells _ _ hA8 rfl Tryd.underlying27 rfl hin ?_)
                  | (refine wl_build_ack (by rfl) (.tmp 110) rfl a ha rfl ?_)
                  | (at_builtin; refine wl_rows_n Ack.cells rfl _ _ 38 27 rfl ia za 38 80 Tryd.underlying38 ia1 ia2 ia3 ia4 ia5 (by decide) (by decide) w6.heap.size _ (l ++ [a]).reverse [a] (l.length + 2) HLN.out rfl hO7 _ rfl (Src.at (by simp [h38]) (by rw [List.flatMap_singleton]; exact hA7)) (fun b _ => b.cells_one) (by omega) hB7 ?_; intro p9 c9 w9 hO9 hG9; have hG10 : Gr w6 none w9 := ((hG.trans hG2).alloc (.cells a.cells.toArray 27)).on hG9 (fun b e => .inl (own_ge hO7 b e)); have hOm := World.ownsRow.kept (hO.alloc (.cells a.cells.toArray 27)) hG9 (own_apart hO HOT.out))
                  | (go_at_call 19; (with_reducible refine (least_own fo st (ms ++ [m]).reverse ((l ++ [a]).reverse ++ [a]) (HK.out.new (hG5.trans (hG6.trans hG10))) (fun x hx => (List.mem_append.1 hx).elim (fun h => HLX.out x (List.mem_reverse.1 h)) (fun h => HLX.out x (List.mem_append.2 (.inr h)))) (by simp; omega) (by simp; omega) (fun x hx => HMX.out x (List.mem_reverse.1 hx)) hOm hO9).mono ?_); rintro e w10 ⟨rfl, hG11⟩; rw [HE.out])
                  | (go_at_call 19; (with_reducible refine (HL2.out _ (hG6.trans (hG10.trans hG11))).mono ?_); rintro e w11 ⟨rfl, hG12⟩))
                go_ret
                exact ⟨rfl, hG5.trans (hG6.trans (hG10.trans (hG11.trans hG12)))⟩

end Go.Proofs.YtjibmhmaoegcnaaDoor
