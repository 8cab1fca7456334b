/- Parts of a proof, joined by program: Least, Gone, Wrong. -/
import Derived.Test.YtjibmhmaoegcnaaDoorK8
import Derived.Maps.OwnIn
namespace Go.Proofs.YtjibmhmaoegcnaaDoor
open Go.RowKit Go.Shelf
set_option linter.unusedVariables false
attribute [local go_sem ↓] Go.wp_at_zero Go.wp_at_succ
/-- An aggregate is read out of a block that is known whole, behind a guard that holds. -/
theorem wl_load_blk_g {P : Program} {ops : Array Oper} {rest : List Oper} {o : Oper} {a : Act} {w : World} {Q : Exit → Act → World → Prop} (hw : Region.wanted o (yielded ops a.tmps) = true) (ty : TypeId) (x : Operand) (ho : o.op = .load ty x)
    (g : Nat) (cs : List Value) (e : TypeId) (d : TypeDesc) (hB : Blk w g e cs) (hx : a.eval x = .pointer (some ⟨g, 0, none⟩)) (hu : P.underlying ty = some d) (hd : d.isRow = true)
    (hi : (P.info? ty).map (·.size) = some cs.length) (h : wpList P ops Q rest (a.put o.dst (.agg cs.toArray)) w) : wpList P ops Q (o :: rest) a w :=
  wpList_step fun K hK => by
    rw [if_pos hw]
    exact wp_load_mid ty x ho g 0 hx cs d (fun j v hv => by rw [Nat.zero_add, hB.cell? j]; exact hv) hu hd hi (hK _ _ h)
/-- A member. -/
structure Mem where
  d : Int
  since : Int
  ver : Int
def Mem.cells (m : Mem) : List Value := [.int .i64 m.d, .int .i64 m.since, .int .i64 m.ver]
/-- Up to where a member has acknowledged. -/
def uptoV (ver : Int) (g : List Ack) : Int := g.foldl (fun n a => if n < a.u ∧ ackCheckV a ver = 0 then a.u else n) 0
/-- What Least answers for the members that it has seen. -/
def leastO (fo st : Int) (l : List Ack) (ms : List Mem) : Option Int :=
  ms.foldl (fun o m => some (match o with | none => uptoV m.ver (grp fo st l m.d) | some n => if uptoV m.ver (grp fo st l m.d) < n then uptoV m.ver (grp fo st l m.d) else n)) none
def leastV (fo st : Int) (l : List Ack) (ms : List Mem) : Int := (leastO fo st l ms).getD 0
theorem uptoV_snoc (ver : Int) (g : List Ack) (a : Ack) : uptoV ver (g ++ [a]) = if uptoV ver g < a.u ∧ ackCheckV a ver = 0 then a.u else uptoV ver g := by
  unfold uptoV; rw [List.foldl_append]; rfl
theorem leastO_snoc (fo st : Int) (l : List Ack) (ms : List Mem) (m : Mem) : leastO fo st l (ms ++ [m]) = some (match leastO fo st l ms with | none => uptoV m.ver (grp fo st l m.d) | some n => if uptoV m.ver (grp fo st l m.d) < n then uptoV m.ver (grp fo st l m.d) else n) := by
  unfold leastO; rw [List.foldl_append]; rfl
theorem leastO_some (fo st : Int) (l : List Ack) (ms : List Mem) (h : ms ≠ []) : leastO fo st l ms = some (leastV fo st l ms) := by
  have : ms = ms.dropLast ++ [ms.getLast h] := (List.dropLast_concat_getLast h).symm
  unfold leastV
  rw [this, leastO_snoc]; rfl
theorem leastV_one (fo st : Int) (l : List Ack) (m : Mem) : leastV fo st l ([] ++ [m]) = uptoV m.ver (grp fo st l m.d) := by
  unfold leastV; rw [leastO_snoc]; rfl
theorem leastV_snoc (fo st : Int) (l : List Ack) (ms : List Mem) (m : Mem) (h : ms ≠ []) : leastV fo st l (ms ++ [m]) = if uptoV m.ver (grp fo st l m.d) < leastV fo st l ms then uptoV m.ver (grp fo st l m.d) else leastV fo st l ms := by
  have := leastO_snoc fo st l ms m
  rw [leastO_some fo st l ms h] at this
  unfold leastV at *
  rw [this]; rfl
theorem mem_cell {w : World} {b o : Nat} {ms : List Mem} (h : At w b o (ms.flatMap Mem.cells)) (i : Nat) (hi : i < ms.length) (j : Nat) (hj : j < 3) : w.cell? ⟨b, o + i * 3 + j, none⟩ = (ms[i]).cells[j]? := by
  have e : (ms.flatMap Mem.cells)[i * 3 + j]? = (ms[i]).cells[j]? := by
    clear h
    induction ms generalizing i with
    | nil => simp at hi
    | cons a ms ih =>
      rw [List.flatMap_cons]
      cases i with
      | zero => rw [List.getElem?_append_left (by show _ < 3; omega)]; simp
      | succ i =>
        rw [List.getElem?_append_right (by show 3 ≤ _; omega), show (i + 1) * 3 + j - a.cells.length = i * 3 + j by show (i + 1) * 3 + j - 3 = _; omega, ih i (by simpa using hi)]
        simp
  have hv : (ms[i]).cells[j]? = some (ms[i]).cells[j] := List.getElem?_eq_getElem hj
  rw [hv] at e ⊢
  obtain ⟨hl, e⟩ := List.getElem?_eq_some_iff.1 e
  have := h (i * 3 + j) hl
  rw [Nat.add_assoc, this, e]
/-- A group's slice. -/
theorem OwnA.slice {w : World} {B : Nat} {v : Value} {g : List Ack} (h : OwnA w B v g) : ∃ p b c, v = .slice p g.length c ∧ (g = [] ∨ (p = some ⟨b, 0, none⟩ ∧ b < w.heap.size ∧ At w b 0 (g.flatMap Ack.cells))) := by
  have h0 := h
  obtain ⟨_, ⟨rfl, hn⟩ | ⟨b, cap, cur, rfl, hg, hb, _⟩⟩ := h
  · have : g = [] := List.eq_nil_of_length_eq_zero hn
    subst this
    exact ⟨none, 0, 0, rfl, .inl rfl⟩
  · refine ⟨_, b, cap, rfl, .inr ⟨rfl, (Array.getElem?_eq_some_iff.1 hb).1, fun i hi => ?_⟩⟩
    have := World.ownsRow.cells h0 (g := b) rfl i _ (List.getElem?_eq_getElem hi)
    rw [Addr.add_lit] at this
    exact this
/-- Rows of acknowledgements, element by element. -/
theorem ack_rangeO {w : World} {b o : Nat} {g : List Ack} (h : At w b o (g.flatMap Ack.cells)) (hg : ∀ a ∈ g, a.ch.length = 32) (i : Nat) (hi : i < g.length) : w.rangeAt b (o + i * 38) (g[i]).cells := by
  intro j v hv
  have hj : j < 38 := by
    have := (List.getElem?_eq_some_iff.1 hv).1
    rwa [Ack.cells_length _ (hg _ (List.getElem_mem hi))] at this
  have e : (g.flatMap Ack.cells)[i * 38 + j]? = (g[i]).cells[j]? := by
    clear h hv
    induction g generalizing i with
    | nil => simp at hi
    | cons a g ih =>
      have ha := a.cells_length (hg a (by simp))
      rw [List.flatMap_cons]
      cases i with
      | zero => rw [List.getElem?_append_left (by omega)]; simp
      | succ i =>
        rw [List.getElem?_append_right (by omega), ha, show (i + 1) * 38 + j - 38 = i * 38 + j by omega, ih (fun x hx => hg x (by simp [hx])) i (by simpa using hi)]
        simp
  rw [hv] at e
  obtain ⟨hl, e⟩ := List.getElem?_eq_some_iff.1 e
  have := h (i * 38 + j) hl
  rw [Nat.add_assoc, this, e]
theorem ack_range {w : World} {b : Nat} {g : List Ack} (h : At w b 0 (g.flatMap Ack.cells)) (hg : ∀ a ∈ g, a.ch.length = 32) (i : Nat) (hi : i < g.length) : w.rangeAt b (i * 38) (g[i]).cells := by
  have := ack_rangeO h hg i hi
  rwa [Nat.zero_add] at this
/-- A whole acknowledgement laid into a new element. -/
theorem build_whole (a : Ack) (ha : a.ch.length = 32) : List.foldl (fun (cs : Array Value) (x : Value × Nat) => cs.setIfInBounds x.snd x.fst) #[.int .i64 0, .int .i64 0, .int .i64 0, .int .i64 0, .int .u8 0, .int .u8 0, .int .u8 0, .int .u8 0, .int .u8 0, .int .u8 0, .int .u8 0, .int .u8 0, .int .u8 0, .int .u8 0, .int .u8 0, .int .u8 0, .int .u8 0, .int .u8 0, .int .u8 0, .int .u8 0, .int .u8 0, .int .u8 0, .int .u8 0, .int .u8 0, .int .u8 0, .int .u8 0, .int .u8 0, .int .u8 0, .int .u8 0, .int .u8 0, .int .u8 0, .int .u8 0, .int .u8 0, .int .u8 0, .int .u8 0, .int .u8 0, .int .i64 0, .int .i64 0] a.cells.zipIdx = a.cells.toArray := by
  have h := foldl_set 0 a.cells 0 [] ([.int .i64 0, .int .i64 0, .int .i64 0, .int .i64 0, .int .u8 0, .int .u8 0, .int .u8 0, .int .u8 0, .int .u8 0, .int .u8 0, .int .u8 0, .int .u8 0, .int .u8 0, .int .u8 0, .int .u8 0, .int .u8 0, .int .u8 0, .int .u8 0, .int .u8 0, .int .u8 0, .int .u8 0, .int .u8 0, .int .u8 0, .int .u8 0, .int .u8 0, .int .u8 0, .int .u8 0, .int .u8 0, .int .u8 0, .int .u8 0, .int .u8 0, .int .u8 0, .int .u8 0, .int .u8 0, .int .u8 0, .int .u8 0, .int .i64 0, .int .i64 0] : List Value) [] (by rw [a.cells_length ha]; rfl) rfl
  simp only [Nat.zero_add, List.nil_append, List.append_nil] at h
  exact h
set_option maxHeartbeats 1000000 in
set_option maxRecDepth 100000 in
/-- One acknowledgement goes into the map (or does not). -/
theorem least_at (mp lp : Option Addr) (mb mo lb lo mc lc : Nat) (fo st : Int) (ms : List Mem) (l : List Ack) (w : World) (hK : Laid w) (hl : ∀ a ∈ l, a.ch.length = 32 ∧ a.ints) (hll : l.length ≤ 1000) (hml : ms.length ≤ 1000) (hmd : ∀ m ∈ ms, i64ok m.d)
    (hlp : l = [] ∨ (lp = some ⟨lb, lo, none⟩ ∧ lb < w.heap.size ∧ At w lb lo (l.flatMap Ack.cells))) (hmp : ms = [] ∨ (mp = some ⟨mb, mo, none⟩ ∧ mb < w.heap.size ∧ At w mb mo (ms.flatMap Mem.cells))) :
    Calls Tryd.prog 19 #[.slice mp ms.length mc, .int .i64 fo, .int .i64 st, .slice lp l.length lc] w fun e w' => e = .returned (.int .i64 (leastV fo st l ms)) ∧ Gr w none w' := by
  have hmm := @run_makeMap Tryd.prog
  have hu := Tryd.underlying27
  go_enter Tryd.func19, Tryd.ntmps19
  go_upto_region 2 with fail
  have hM0 := MapIs.made w
  have hGp : Gp w fo st [] (w.alloc (.map #[] 0)) := ⟨(Gr.refl _ _).alloc _, 0, _, Nat.le_refl _, hM0, fun d hd => World.ownsRow_nil _ _ _ _, fun d d' b _ _ h => by cases h⟩
  change Code.wp _ _ _ _ (w.alloc (.map #[] 0))
  generalize (w.alloc (.map #[] 0)) = W at *
  go_wp2_with fail
  go_loopw [20] (fun i wr => ∃ m : Nat, m ≤ l.length ∧ i = .int .i64 m ∧ Gp w fo st (l.take m) wr) (fun i _ => (l.length - intOf i).toNat)
  case atStart => exact ⟨0, by omega, rfl, hGp⟩
  case round =>
    obtain ⟨m, hm, rfl, hGr⟩ := hrel
    by_cases hlt : m < l.length
    · obtain ⟨rfl, hlb, hlA⟩ := hlp.resolve_left (by intro e; rw [e] at hlt; simp at hlt)
      have hR := ack_rangeO (hlA.grown hGr.gr (by simp)) (fun a ha => (hl a ha).1) m hlt
      have HT := Lib.hid (show l.take (m + 1) = l.take m ++ [l[m]] from (List.take_append_getElem hlt).symm)
      have hla := hl l[m] (List.getElem_mem hlt)
      generalize l[m] = a at *
      have hin : ((Tryd.prog).info? 27).map (·.size) = some a.cells.length := by rw [a.cells_length hla.1]; kernel_rfl
      have hgrow : Gr wr none (wr.alloc (.cells a.cells.toArray 27)) := (Gr.refl _ _).alloc _
      have hGp4 := hGr.grown hgrow
      have hX := Blk.new wr 27 a.cells
      have hXw : w.heap.size ≤ wr.heap.size := hGr.gr.size
      go_upto_region 5 with (first
        | (refine wpList_load_mid rfl _ _ rfl lb (lo + m * 38) rfl a.cells _ hR hu rfl hin ?_)
        | (refine wl_store_new rfl 27 _ _ rfl a.cells _ _ rfl rfl (by kernel_rfl) (by rw [a.cells_length hla.1]; rfl) a.cells_one ?_))
      change Code.wp _ _ _ _ (wr.alloc (.cells a.cells.toArray 27))
      generalize (wr.alloc (.cells a.cells.toArray 27)) = W4 at *
      generalize hXe : wr.heap.size = X at *
      have c0 : W4.cell? ⟨X, 0, none⟩ = some (.int .i64 a.f) := hX.cell? 0
      have c1 : W4.cell? ⟨X, 1, none⟩ = some (.int .i64 a.d) := hX.cell? 1
      have c2 : W4.cell? ⟨X, 2, none⟩ = some (.int .i64 a.s) := hX.cell? 2
      clear hR
      by_cases hf : a.f = fo
      · by_cases hs : a.s = st
        · have hda : i64ok a.d := hla.2.2.1
          obtain ⟨n, F, hn, hFr, hOr, hSp⟩ := hGr.ex
          have hF := hFr.kept hgrow (by simp)
          have hO := fun d hd => World.ownsRow.kept (hOr d hd) hgrow (by cases (F d).ownBlock <;> simp)
          have hXo : some X ≠ (F a.d).ownBlock := fun e => by have := own_lt (hOr a.d hda) X e.symm; omega
          have hMo : some w.heap.size ≠ (F a.d).ownBlock := fun e => by have := own_ge (hOr a.d hda) _ e.symm; omega
          have hX8 := (hX.alloc (.cells a.cells.toArray 27)).drew
          have hG8 : Gr W4 none (W4.alloc (.cells a.cells.toArray 27)).drew := ((Gr.refl W4 none).alloc _).drew
          have hF8 := hF.kept hG8 (by simp)
          have hO8 := World.ownsRow.kept (hO a.d hda) hG8 (by cases (F a.d).ownBlock <;> simp)
          have hA8 : At (W4.alloc (.cells a.cells.toArray 27)).drew W4.heap.size 0 a.cells := (at_new W4 a.cells 27).drew
          have hB8 : w.heap.size + 1 ≤ (W4.alloc (.cells a.cells.toArray 27)).drew.heap.size := by show _ ≤ (W4.alloc _).heap.size; rw [World.size_alloc]; have := hF.lt; omega
          have hgl : (grp fo st (l.take m) a.d).length ≤ 100000 := by
            have := List.length_filter_le (fun x : Ack => decide (x.f = fo ∧ x.s = st ∧ x.d = a.d)) (l.take m)
            unfold grp
            rw [List.length_take] at this
            omega
          have hnl : n < 1000000 := by rw [List.length_take] at hn; omega
          have hL0 := hF.look hda
          have h38 := a.cells_length hla.1
          have hbw := build_whole a hla.1
          go_upto_region 6 with fail
          have hS : (fun w' : World => w'.cell? ⟨X, 1, none⟩ = some (.int .i64 a.d) ∧ (Instr.lookup 87 (.map (some w.heap.size)) (.int .i64 a.d) false).run Tryd.prog w' = .ok (F a.d) w' ∧ w'.rangeAt X 0 a.cells ∧ Blk w' X 27 a.cells ∧ MapIs w' w.heap.size n F) W4.drew :=
            ⟨hX.cell? 1, (hF.kept ((Gr.refl W4 none).drew) (by simp)).look hda, fun j v hv => by rw [Nat.zero_add, hX.drew.cell? j]; exact hv, hX.drew, hF.kept ((Gr.refl W4 none).drew) (by simp)⟩
          refine wp_region_last (S := fun w' => w'.cell? ⟨X, 1, none⟩ = some (.int .i64 a.d) ∧ (Instr.lookup 87 (.map (some w.heap.size)) (.int .i64 a.d) false).run Tryd.prog w' = .ok (F a.d) w' ∧ w'.rangeAt X 0 a.cells ∧ Blk w' X 27 a.cells ∧ MapIs w' w.heap.size n F) 10 (by kernel_rfl) ?_
          refine wpAnyL_take (i := 0) (oi := { dst := some 34, op := _, type := _, pos := _, after := _, guard := none }) (v := ?v0) rfl (by kernel_rfl) (by kernel_rfl) (by kernel_rfl) (by kernel_rfl) (fun _ _ _ h => h) (Or.inl ⟨by rfl, ?h0⟩) hS ?r0
          case h0 => intro w0 hw0; obtain ⟨s0, s1, _⟩ := hw0; go_simp; try with_reducible rfl
          simp only [Act.put, List.setIfInBounds_toArray, List.set_cons_zero, List.set_cons_succ]
          refine wpAnyL_take (i := 1) (oi := { dst := some 35, op := _, type := _, pos := _, after := _, guard := none }) (v := ?v1) rfl (by kernel_rfl) (by kernel_rfl) (by kernel_rfl) (by kernel_rfl) (fun _ _ _ h => h) (Or.inl ⟨by rfl, ?h1⟩) hS ?r1
          case h1 => intro w0 hw0; obtain ⟨s0, s1, _⟩ := hw0; go_simp; try with_reducible rfl
          simp only [Act.put, List.setIfInBounds_toArray, List.set_cons_zero, List.set_cons_succ]
          refine wpAnyL_take (i := 2) (oi := { dst := some 36, op := _, type := _, pos := _, after := _, guard := none }) (v := ?v2) rfl (by kernel_rfl) (by kernel_rfl) (by kernel_rfl) (by kernel_rfl) (fun _ _ _ h => h) (Or.inl ⟨by rfl, ?h2⟩) hS ?r2
          case h2 => intro w0 hw0; obtain ⟨s0, s1, _⟩ := hw0; go_simp; try with_reducible rfl
          simp only [Act.put, List.setIfInBounds_toArray, List.set_cons_zero, List.set_cons_succ]
          refine wpAnyL_take (i := 3) (oi := { dst := some 37, op := _, type := _, pos := _, after := _, guard := none }) (v := ?v3) rfl (by kernel_rfl) (by kernel_rfl) (by kernel_rfl) (by kernel_rfl) (fun _ _ _ h => h) (Or.inl ⟨by rfl, ?h3⟩) hS ?r3
          case h3 => intro w0 hw0; obtain ⟨s0, s1, _⟩ := hw0; go_simp; try with_reducible rfl
          simp only [Act.put, List.setIfInBounds_toArray, List.set_cons_zero, List.set_cons_succ]
          refine wpAnyL_take (i := 4) (oi := { dst := some 38, op := _, type := _, pos := _, after := _, guard := none }) (v := ?v4) rfl (by kernel_rfl) (by kernel_rfl) (by kernel_rfl) (by kernel_rfl) (fun _ _ _ h => h) (Or.inl ⟨by rfl, ?h4⟩) hS ?r4
          case h4 => intro w0 hw0; obtain ⟨s0, s1, _⟩ := hw0; go_simp; try with_reducible rfl
          simp only [Act.put, List.setIfInBounds_toArray, List.set_cons_zero, List.set_cons_succ]
          refine wpAnyL_take (i := 5) (oi := { dst := some 39, op := _, type := _, pos := _, after := _, guard := none }) (v := ?v5) rfl (by kernel_rfl) (by kernel_rfl) (by kernel_rfl) (by kernel_rfl) (fun _ _ _ h => h) (Or.inl ⟨by rfl, ?h5⟩) hS ?r5
          case h5 => intro w0 hw0; obtain ⟨s0, s1, _⟩ := hw0; go_simp; try with_reducible rfl
          simp only [Act.put, List.setIfInBounds_toArray, List.set_cons_zero, List.set_cons_succ]
          refine wpAnyL_take (i := 6) (oi := { dst := some 40, op := _, type := _, pos := _, after := _, guard := none }) (v := ?v6) rfl (by kernel_rfl) (by kernel_rfl) (by kernel_rfl) (by kernel_rfl) (fun _ _ _ h => h) (Or.inl ⟨by rfl, ?h6⟩) hS ?r6
          case h6 => intro w0 hw0; obtain ⟨s0, s1, _⟩ := hw0; go_simp; try with_reducible rfl
          simp only [Act.put, List.setIfInBounds_toArray, List.set_cons_zero, List.set_cons_succ]
          refine wpAnyL_take (i := 7) (oi := { dst := some 41, op := _, type := _, pos := _, after := _, guard := none }) (v := .agg a.cells.toArray) rfl (by kernel_rfl) (by kernel_rfl) (by kernel_rfl) (by kernel_rfl) (fun _ _ _ h => h) (yieldsIf_load_mid (by rfl) 27 _ rfl X 0 (by rfl) a.cells _ (fun _ h => h.2.2.1) hu rfl hin) hS ?r7
          simp only [Act.put, List.setIfInBounds_toArray, List.set_cons_zero, List.set_cons_succ]
          refine wpAnyL_ready (rs := [8]) (by kernel_rfl) (by simp) ?_
          refine AllReadyL.cons (o := { dst := some 42, op := _, type := _, pos := _, after := _, guard := none }) rfl (fun K hK => ?_) AllReadyL.nil
          go_simp
          refine hK _ _ (fun _ => ⟨hX8.cell? 1, hF8.look hda, fun j v hv => by rw [Nat.zero_add, hX8.cell? j]; exact hv, hX8, hF8⟩) ?_
          clear hK K
          refine wpAnyL_ready (rs := [9]) (by kernel_rfl) (by simp) ?_
          refine AllReadyL.cons (o := { dst := some 43, op := _, type := _, pos := _, after := _, guard := none }) rfl (fun K hK => ?_) AllReadyL.nil
          refine step_ack (by rfl) _ _ (by rfl) (w.heap.size + 1) (F a.d) (grp fo st (l.take m) a.d) a hla.1 _ (by rfl) hO8 hB8 hgl W4.heap.size hA8 (by rfl) ?_
          intro b6 cap6 w6 hown6 hgrow6 hat6 hlt6
          have hX6 := hX8.grown hgrow6 hXo
          have hF6 := hF8.kept hgrow6 hMo
          refine hK _ _ (fun _ => ⟨hX6.cell? 1, hF6.look hda, fun j v hv => by rw [Nat.zero_add, hX6.cell? j]; exact hv, hX6, hF6⟩) ?_
          clear hK K
          refine wpAnyL_ready (rs := [10]) (by kernel_rfl) (by simp) ?_
          refine AllReadyL.cons (o := { dst := none, op := _, type := _, pos := _, after := _, guard := none }) rfl (fun K hK => ?_) AllReadyL.nil
          refine step_put (by rfl) _ _ _ (by rfl) w.heap.size n F a.d _ w6 (by rfl) (by rfl) (by rfl) hF6 hnl hda ?_
          intro w7 hM7 hG7
          refine hK _ _ (fun h => absurd rfl h) ?_
          clear hK K
          refine wpAnyL_done (by kernel_rfl) ?_ _
          have hGn := Gp.more hGp4.gr hn hF hO hSp ⟨hf, hs⟩ hda hG8 hgrow6 hown6 hat6 hM7 hG7
          go_wp2_with fail
          go_roundw
          case rel => exact ⟨m + 1, by omega, int_eq (by omega), by rw [HT.out]; exact hGn⟩
          case measure => simp [intOf]; omega
        · have hGn := hGp4.other (a := a) (fun h => hs h.2)
          go_wp2_with fail
          go_roundw
          case rel => exact ⟨m + 1, by omega, int_eq (by omega), by rw [HT.out]; exact hGn⟩
          case measure => simp [intOf]; omega
      · have hGn := hGp4.other (a := a) (fun h => hf h.1)
        go_wp2_with fail
        go_roundw
        case rel => exact ⟨m + 1, by omega, int_eq (by omega), by rw [HT.out]; exact hGn⟩
        case measure => simp [intOf]; omega
    · obtain rfl : m = l.length := by omega
      rw [List.take_length] at hGr
      clear hGp hM0
      go_wp2_with fail
      go_loopw [47, 8] (fun i r wr => ∃ k : Nat, k ≤ ms.length ∧ i = .int .i64 k ∧ r = .int .i64 (leastV fo st l (ms.take k)) ∧ Gp w fo st l wr) (fun i _ _ => (ms.length - intOf i).toNat)
      case atStart => exact ⟨0, by omega, rfl, rfl, hGr⟩
      case round =>
        obtain ⟨k, hk, rfl, rfl, hGk⟩ := hrel
        by_cases hkl : k < ms.length
        · obtain ⟨rfl, hmb, hmA⟩ := hmp.resolve_left (by intro e; rw [e] at hkl; simp at hkl)
          have hmc := mem_cell (hmA.grown hGk.gr (by simp)) k hkl
          have q0 : wr.cell? ⟨mb, mo + k * 3, none⟩ = some (.int .i64 (ms[k]).d) := hmc 0 (by omega)
          have q1 : wr.cell? ⟨mb, mo + k * 3 + 1, none⟩ = some (.int .i64 (ms[k]).since) := hmc 1 (by omega)
          have q2 : wr.cell? ⟨mb, mo + k * 3 + 2, none⟩ = some (.int .i64 (ms[k]).ver) := hmc 2 (by omega)
          have HT := Lib.hid (show ms.take (k + 1) = ms.take k ++ [ms[k]] from (List.take_append_getElem hkl).symm)
          have hmd' := hmd ms[k] (List.getElem_mem hkl)
          clear hmc
          generalize ms[k] = mm at *
          go_upto_region 12 with fail
          have hMB := Blk.new wr 47 [.int .i64 mm.d, .int .i64 mm.since, .int .i64 mm.ver]
          have hGk5 := hGk.grown ((Gr.refl wr none).alloc (.cells #[.int .i64 mm.d, .int .i64 mm.since, .int .i64 mm.ver] 47))
          change Code.wp _ _ _ _ (wr.alloc (.cells #[.int .i64 mm.d, .int .i64 mm.since, .int .i64 mm.ver] 47))
          generalize (wr.alloc (.cells #[.int .i64 mm.d, .int .i64 mm.since, .int .i64 mm.ver] 47)) = W5 at *
          generalize wr.heap.size = Y at *
          obtain ⟨n, F, hn, hF, hO, hSp⟩ := hGk5.ex
          have hlk := hF.look hmd'
          obtain ⟨gp, gb, gc, hFv, hgp⟩ := (hO mm.d hmd').slice
          rw [hFv] at hlk
          have hgall : ∀ a ∈ grp fo st l mm.d, a.ch.length = 32 ∧ a.ints := fun a ha => hl a (List.mem_filter.1 ha).1
          have hgl : (grp fo st l mm.d).length ≤ 1000 := Nat.le_trans (List.length_filter_le _ _) hll
          generalize hge : grp fo st l mm.d = g at *
          have d0 := hMB.cell? 0
          clear hSp hO hF hFv q0 q1 q2
          have HGE := Lib.hid hge
          clear hge
          have hgp5 : g = [] ∨ (gp = some ⟨gb, 0, none⟩ ∧ gb < W5.heap.size ∧ At W5 gb 0 (g.flatMap Ack.cells)) := hgp
          clear hgp
          go_wp2_with fail
          go_loopw [57, 14] (fun i up wr => ∃ j : Nat, j ≤ g.length ∧ i = .int .i64 j ∧ up = .int .i64 (uptoV mm.ver (g.take j)) ∧ Gr W5 none wr) (fun i _ _ => (g.length - intOf i).toNat)
          case atStart => exact ⟨0, by omega, rfl, rfl, Gr.refl _ _⟩
          case round =>
            obtain ⟨j, hj, rfl, rfl, hG6⟩ := hrel
            have hMB6 := hMB.grown hG6 (by simp)
            by_cases hjl : j < g.length
            · obtain ⟨rfl, hgb, hgA⟩ := hgp5.resolve_left (by intro e; rw [e] at hjl; simp at hjl)
              have hR := ack_range (hgA.grown hG6 (by simp)) (fun a ha => (hgall a ha).1) j hjl
              have HT2 := Lib.hid (show g.take (j + 1) = g.take j ++ [g[j]] from (List.take_append_getElem hjl).symm)
              have hla := hgall g[j] (List.getElem_mem hjl)
              generalize g[j] = a at *
              have hin : ((Tryd.prog).info? 27).map (·.size) = some a.cells.length := by rw [a.cells_length hla.1]; kernel_rfl
              have hG7 := hG6.alloc (.cells a.cells.toArray 27)
              have hX := Blk.new wr 27 a.cells
              have hMB7 := hMB6.alloc (.cells a.cells.toArray 27)
              go_upto_region 15 with (first
                | (refine wpList_load_mid rfl _ _ rfl gb (j * 38) rfl a.cells _ hR hu rfl hin ?_)
                | (refine wl_store_new rfl 27 _ _ rfl a.cells _ _ rfl rfl (by kernel_rfl) (by rw [a.cells_length hla.1]; rfl) a.cells_one ?_))
              change Code.wp _ _ _ _ (wr.alloc (.cells a.cells.toArray 27))
              generalize (wr.alloc (.cells a.cells.toArray 27)) = W7 at *
              generalize wr.heap.size = X at *
              have x3 : W7.cell? ⟨X, 3, none⟩ = some (.int .i64 a.u) := hX.cell? 3
              have y2 : W7.cell? ⟨Y, 2, none⟩ = some (.int .i64 mm.ver) := hMB7.cell? 2
              have hCk := ackCheck_any a mm.ver W7 hla.1 hla.2 (hK.new (hGk5.gr.trans hG7))
              clear hR
              have hup := uptoV_snoc mm.ver (g.take j) a
              obtain ⟨n0, hn0⟩ : ∃ n0, n0 = uptoV mm.ver (g.take j) := ⟨_, rfl⟩
              rw [← hn0] at hup ⊢
              have HU := Lib.hid hup
              clear hup hn0
              by_cases hgt : n0 < a.u
              · by_cases hck : ackCheckV a mm.ver = 0
                · rw [hck] at hCk
                  go_wp2_with (first
                    | (refine wl_load_blk_g (by rfl) 27 _ rfl X a.cells _ _ hX rfl Tryd.underlying27 rfl hin ?_)
                    | (go_at_call 22; refine hCk.mono ?_; rintro e w8 ⟨rfl, hG8⟩; have x38 : w8.cell? ⟨X, 3, none⟩ = some (.int .i64 a.u) := (hX.grown hG8 (by simp)).cell? 3))
                  go_roundw
                  case rel => exact ⟨j + 1, by omega, int_eq (by omega), by rw [HT2.out, HU.out, if_pos ⟨hgt, hck⟩], hG7.trans hG8⟩
                  case measure => simp [intOf]; omega
                · have hck2 : ((ackCheckV a mm.ver) == 0) = false := by simp [hck]
                  have HC := Lib.hid hck
                  clear hck
                  go_wp2_with (first
                    | (refine wl_load_blk_g (by rfl) 27 _ rfl X a.cells _ _ hX rfl Tryd.underlying27 rfl hin ?_)
                    | (go_at_call 22; refine hCk.mono ?_; rintro e w8 ⟨rfl, hG8⟩))
                  go_roundw
                  case rel => exact ⟨j + 1, by omega, int_eq (by omega), by rw [HT2.out, HU.out, if_neg (fun h => HC.out h.2)], hG7.trans hG8⟩
                  case measure => simp [intOf]; omega
              · go_wp2_with fail
                go_roundw
                case rel => exact ⟨j + 1, by omega, int_eq (by omega), by rw [HT2.out, HU.out, if_neg (fun h => hgt h.1)], hG7⟩
                case measure => simp [intOf]; omega
            · obtain rfl : j = g.length := by omega
              rw [List.take_length]
              have hGk9 := hGk5.grown hG6
              obtain ⟨up, hup⟩ : ∃ up, up = uptoV mm.ver g := ⟨_, rfl⟩
              obtain ⟨ln, hln⟩ : ∃ ln, ln = leastV fo st l (ms.take k) := ⟨_, rfl⟩
              rw [← hup]
              have HUP := Lib.hid hup
              have HLN := Lib.hid hln
              rw [← hln]
              clear hup hln
              by_cases hk0 : k = 0
              · have k0 : ((k : Int) == 0) = true := by simp [hk0]
                have HV := Lib.hid (show leastV fo st l (ms.take (k + 1)) = up by rw [HT.out, hk0, List.take_zero, leastV_one, HGE.out, HUP.out])
                clear hk0
                go_wp2_with fail
                go_roundw
                case rel => exact ⟨k + 1, by omega, int_eq (by omega), by rw [HV.out], hGk9⟩
                case measure => simp [intOf]; omega
              · have k0 : ¬ (k : Int) = 0 := by omega
                have hne : ms.take k ≠ [] := fun e => by
                  have h2 : min k ms.length = 0 := by have := congrArg List.length e; rwa [List.length_take] at this
                  omega
                by_cases hlo : up < ln
                · have HV := Lib.hid (show leastV fo st l (ms.take (k + 1)) = up by rw [HT.out, leastV_snoc _ _ _ _ _ hne, HGE.out, ← HUP.out, ← HLN.out, if_pos hlo])
                  clear hne
                  go_wp2_with fail
                  go_roundw
                  case rel => exact ⟨k + 1, by omega, int_eq (by omega), by rw [HV.out], hGk9⟩
                  case measure => simp [intOf]; omega
                · have HV := Lib.hid (show leastV fo st l (ms.take (k + 1)) = ln by rw [HT.out, leastV_snoc _ _ _ _ _ hne, HGE.out, ← HUP.out, ← HLN.out, if_neg hlo])
                  clear hne
                  go_wp2_with fail
                  go_roundw
                  case rel => exact ⟨k + 1, by omega, int_eq (by omega), by rw [HV.out], hGk9⟩
                  case measure => simp [intOf]; omega
        · obtain rfl : k = ms.length := by omega
          rw [List.take_length]
          go_wp2_with fail
          go_ret
          exact ⟨rfl, hGk.gr⟩
theorem least_any (mp lp : Option Addr) (mb lb mc lc : Nat) (fo st : Int) (ms : List Mem) (l : List Ack) (w : World) (hK : Laid w) (hl : ∀ a ∈ l, a.ch.length = 32 ∧ a.ints) (hll : l.length ≤ 1000) (hml : ms.length ≤ 1000) (hmd : ∀ m ∈ ms, i64ok m.d)
    (hlp : l = [] ∨ (lp = some ⟨lb, 0, none⟩ ∧ lb < w.heap.size ∧ At w lb 0 (l.flatMap Ack.cells))) (hmp : ms = [] ∨ (mp = some ⟨mb, 0, none⟩ ∧ mb < w.heap.size ∧ At w mb 0 (ms.flatMap Mem.cells))) :
    Calls Tryd.prog 19 #[.slice mp ms.length mc, .int .i64 fo, .int .i64 st, .slice lp l.length lc] w fun e w' => e = .returned (.int .i64 (leastV fo st l ms)) ∧ Gr w none w' :=
  least_at mp lp mb 0 lb 0 mc lc fo st ms l w hK hl hll hml hmd hlp hmp
end Go.Proofs.YtjibmhmaoegcnaaDoor
namespace Go.Proofs.YtjibmhmaoegcnaaDoor
open Go.RowKit Go.Shelf
set_option linter.unusedVariables false
section
variable {F : Fence} {n : Nat} {P : Program} {ops : Array Oper} {rest : List Oper} {o : Oper} {a : Act} {w : World} {Q : Exit → Act → World → Prop}
/-- A whole value is read, inside a fence. -/
theorem wlI_load (hw : Region.wanted o (yielded ops a.tmps) = true) (ty : TypeId) (x : Operand) (ho : o.op = .load ty x) (g p : Nat) (cs : List Value) (d : TypeDesc) (hx : a.eval x = .pointer (some ⟨g, p, none⟩)) (hc : w.rangeAt g p cs)
    (hu : P.underlying ty = some d) (hd : d.isRow = true) (hi : (P.info? ty).map (·.size) = some cs.length) (h : wpListIn F n P ops Q rest (a.put o.dst (.agg cs.toArray)) w) : wpListIn F n P ops Q (o :: rest) a w := by
  refine wpListIn_step fun K hK => ?_
  rw [if_pos hw]
  unfold Oper.wpIn
  refine ⟨by simp [Oper.about, ho], ?_⟩
  rw [Oper.semAt_plain F _ _ (by rw [ho]; intro c hc'; cases hc')]
  simp only [execOp, ho, hx, Instr.loadAt, Instr.sureAddr, Sem.run_bind, Sem.run_pure, Result.andThen_ok, run_loadVar_mid w g p ty cs d hc hu hd hi]
  exact hK _ _ h
/-- A whole value is stored into a variable that has just been made, inside a fence. -/
theorem wlI_store_new (hw : Region.wanted o (yielded ops a.tmps) = true) (ty : TypeId) (x y : Operand) (ho : o.op = .store ty x y) (cs : List Value) (c : Array Value) (e : TypeId) (hx : a.eval x = .pointer (some ⟨w.heap.size, 0, none⟩)) (hy : a.eval y = .agg cs.toArray)
    (hi : (P.info? ty).map (·.size) = some cs.length) (hc : c.size = cs.length) (h1 : ∀ v ∈ cs, v.oneCell' = true) (h : wpListIn F n P ops Q rest (a.put o.dst undef) (w.alloc (.cells cs.toArray e (0, 0)))) : wpListIn F n P ops Q (o :: rest) a (w.alloc (.cells c e (0, 0))) := by
  refine wpListIn_step fun K hK => ?_
  rw [if_pos hw]
  unfold Oper.wpIn
  refine ⟨by simp [Oper.about, ho], ?_⟩
  rw [Oper.semAt_plain F _ _ (by rw [ho]; intro c hc'; cases hc')]
  have hr := run_storeVar_row (P := P) (w.alloc (.cells c e (0, 0))) w.heap.size e ty c cs.toArray (heap_alloc_new _ _) (by rw [hi]; simp) (by simpa using hc) (by rw [List.all_toArray, List.all_eq_true]; exact h1)
  simp only [execOp, ho, hx, hy, Instr.storeAt, Instr.sureAddr, Sem.run_bind, Sem.run_pure, Result.andThen_ok, hr]
  rw [setRow_new]
  exact hK _ _ h
end
/-- An entry of a log: its kind, what lies between, and whether it is gone. -/
structure Ent where
  k : Int
  mid : List Value
  gone : Bool
def Ent.cells (e : Ent) : List Value := .int .i64 e.k :: (e.mid ++ [.bool e.gone])
def Ent.fit (e : Ent) : Prop := e.mid.length = 33 ∧ ∀ v ∈ e.mid, v.oneCell' = true
theorem Ent.cells_length {e : Ent} (h : e.fit) : e.cells.length = 35 := by simp [Ent.cells, h.1]
theorem Ent.cells_one {e : Ent} (h : e.fit) : ∀ v ∈ e.cells, v.oneCell' = true := by
  intro v hv
  simp only [Ent.cells, List.mem_cons, List.mem_append, List.not_mem_nil, or_false] at hv
  rcases hv with rfl | hv | rfl
  · rfl
  · exact h.2 v hv
  · rfl
theorem Ent.c34 {e : Ent} (h : e.fit) : e.cells[34]? = some (.bool e.gone) := by
  simp [Ent.cells, h.1]
/-- The entries that are gone, with their numbers. -/
def goneL (es : List Ent) : List (Int × Ent) := es.zipIdx.filterMap fun p => if p.1.gone then some ((p.2 : Int) + 1, p.1) else none
theorem goneL_snoc (es : List Ent) (e : Ent) : goneL (es ++ [e]) = if e.gone then goneL es ++ [((es.length : Int) + 1, e)] else goneL es := by
  unfold goneL
  rw [List.zipIdx_append, List.filterMap_append]
  cases hg : e.gone <;> simp [hg]
theorem goneL_le (es : List Ent) : (goneL es).length ≤ es.length := by
  unfold goneL
  exact Nat.le_trans (List.length_filterMap_le _ _) (by simp)
theorem ent_range {w : World} {b o : Nat} {es : List Ent} (h : At w b o (es.flatMap Ent.cells)) (hf : ∀ e ∈ es, e.fit) (i : Nat) (hi : i < es.length) : w.rangeAt b (o + i * 35) (es[i]).cells := by
  intro j v hv
  have hj : j < 35 := by
    have := (List.getElem?_eq_some_iff.1 hv).1
    rwa [Ent.cells_length (hf _ (List.getElem_mem hi))] at this
  have e : (es.flatMap Ent.cells)[i * 35 + j]? = (es[i]).cells[j]? := by
    clear h hv
    induction es generalizing i with
    | nil => simp at hi
    | cons a es ih =>
      have ha := Ent.cells_length (hf a (by simp))
      rw [List.flatMap_cons]
      cases i with
      | zero => rw [List.getElem?_append_left (by omega)]; simp
      | succ i =>
        rw [List.getElem?_append_right (by omega), ha, show (i + 1) * 35 + j - 35 = i * 35 + j by omega, ih (fun x hx => hf x (by simp [hx])) i (by simpa using hi)]
        simp
  rw [hv] at e
  obtain ⟨hl, e⟩ := List.getElem?_eq_some_iff.1 e
  have := h (i * 35 + j) hl
  rw [Nat.add_assoc, this, e]
theorem lt_of_same {w w' : World} {b : Nat} (h : b < w.heap.size) (e : w'.heap[b]? = w.heap[b]?) : b < w'.heap.size := by
  rw [Array.getElem?_eq_getElem h] at e
  exact (Array.getElem?_eq_some_iff.1 e).1
theorem At.of_heap {w w' : World} {b o : Nat} {cs : List Value} (h : At w b o cs) (e : w'.heap[b]? = w.heap[b]?) : At w' b o cs := fun i hi => (World.cell?_of_block (a := ⟨b, o + i, none⟩) e).trans (h i hi)
set_option maxHeartbeats 2000000 in
set_option maxRecDepth 100000 in
theorem gone1_in (p : Option Addr) (l Bs eb eo ec : Nat) (es : List Ent) (hes : ∀ e ∈ es, e.fit) (hel : es.length ≤ 100000) (J Jx : List (Int × Ent) → World → Prop)
    (W : World) (hJ : AbidesFrom W.heap.size J)
    (hY : ∀ pre x W, x.2.fit → J pre W → pre.length < es.length → YieldAt Fence.wide 2 Tryd.prog l #[.int .i64 x.1, .agg x.2.cells.toArray] W fun e W' =>
      (e = .returned (.bool true) ∧ J (pre ++ [x]) W' ∧ W'.heap[Bs]? = W.heap[Bs]? ∧ W'.heap[eb]? = W.heap[eb]?) ∨ (e = .returned (.bool false) ∧ Jx (pre ++ [x]) W'))
    (hBs : W.cell? ⟨Bs, 0, none⟩ = some (.slice p es.length ec)) (hp : es = [] ∨ p = some ⟨eb, eo, none⟩) (hA : At W eb eo (es.flatMap Ent.cells)) (hbl : Bs < W.heap.size) (hel' : eb < W.heap.size) (h0 : J [] W) :
    CallsIn Fence.wide 3 Tryd.prog 56 #[.func (.yield l) #[] #[], .pointer (some ⟨Bs, 0, none⟩)] W fun e W' => (∃ v, e = .returned v) ∧
      ((∃ ys, ys = goneL es ∧ J ys W') ∨ (∃ pre, True ∧ Jx pre W')) := by
  have hu := Tryd.underlying45
  refine callsIn_of_wp Tryd.func56 rfl trivial ?_ rfl
  simp only [Tryd.ntmps56, List.size_toArray, List.length_cons, List.length_nil, Nat.reduceAdd, Nat.reduceSub, Array.replicate_succ, Array.replicate_zero, List.push_toArray, List.append_toArray, List.nil_append, List.cons_append]
  gi_wp2
  gi_loopw [7] (fun i wr => ∃ m : Nat, m ≤ es.length ∧ i = .int .i64 m ∧ J (goneL (es.take m)) wr ∧ wr.heap[Bs]? = W.heap[Bs]? ∧ wr.heap[eb]? = W.heap[eb]?) (fun i _ => (es.length - intOf i).toNat)
  case atStart => exact ⟨0, Nat.zero_le _, rfl, h0, rfl, rfl⟩
  case round =>
    obtain ⟨m, hm, rfl, hJs, hn1, hn2⟩ := hrel
    by_cases hlt : m < es.length
    · obtain rfl : p = some ⟨eb, eo, none⟩ := hp.resolve_left (by intro e; rw [e] at hlt; simp at hlt)
      have hR := ent_range (hA.of_heap hn2) hes m hlt
      have hef := hes es[m] (List.getElem_mem hlt)
      have HT := Lib.hid (show es.take (m + 1) = es.take m ++ [es[m]] from (List.take_append_getElem hlt).symm)
      have HL := Lib.hid (show (es.take m).length = m by simp; omega)
      generalize es[m] = e at *
      have hin : ((Tryd.prog).info? 45).map (·.size) = some e.cells.length := by rw [Ent.cells_length hef]; kernel_rfl
      have HN1 := Lib.hid hn1
      have HN2 := Lib.hid hn2
      clear hn1 hn2
      have hX := Blk.new wr 45 e.cells
      have hJa : J (goneL (es.take m)) (wr.alloc (.cells e.cells.toArray 45)) := hJ _ _ _ none hJs (World.grownBy_alloc _ _ _) (by simp)
      have x34 : (wr.alloc (.cells e.cells.toArray 45)).cell? ⟨wr.heap.size, 34, none⟩ = some (.bool e.gone) := (hX.cell? 34).trans (Ent.c34 hef)
      have hXr : (wr.alloc (.cells e.cells.toArray 45)).rangeAt wr.heap.size 0 e.cells := fun j v hv => by rw [Nat.zero_add, hX.cell? j]; exact hv
      have lt1 := lt_of_same hbl HN1.out
      have lt2 := lt_of_same hel' HN2.out
      have HB1 := Lib.hid ((Below.heap_alloc wr (.cells e.cells.toArray 45) Bs lt1).trans HN1.out)
      have HB2 := Lib.hid ((Below.heap_alloc wr (.cells e.cells.toArray 45) eb lt2).trans HN2.out)
      have hpl : (goneL (es.take m)).length < es.length := Nat.lt_of_le_of_lt (goneL_le _) (by rw [HL.out]; exact hlt)
      have HS := Lib.hid (goneL_snoc (es.take m) e)
      cases hg : e.gone with
      | false =>
        rw [hg] at x34
        have HG := Lib.hid hg
        clear hg
        gi_wp2_with (first
          | (refine wlI_load (by rfl) 45 _ rfl eb (eo + m * 35) e.cells _ rfl hR hu rfl hin ?_)
          | (refine wlI_load (by rfl) 45 _ rfl wr.heap.size 0 e.cells _ rfl hXr hu rfl hin ?_)
          | (refine wlI_store_new (by rfl) 45 _ _ rfl e.cells _ _ rfl rfl hin (by rw [Ent.cells_length hef]; rfl) (Ent.cells_one hef) ?_))
        refine ⟨fun f h => (by cases h), ?_⟩
        gi_wp2
        go_roundw
        case rel => exact ⟨m + 1, by omega, int_eq (by omega), by rw [HT.out, HS.out, HG.out]; exact hJa, HB1.out, HB2.out⟩
        case measure => simp [intOf]; omega
      | true =>
        rw [hg] at x34
        have HG := Lib.hid hg
        clear hg
        obtain ⟨fn, tmps, assign, body, hy, hRR⟩ := hY _ ((m : Int) + 1, e) (wr.alloc (.cells e.cells.toArray 45)) hef hJa hpl
        dsimp only at hy
        gi_wp2_with (first
          | (refine wlI_load (by rfl) 45 _ rfl eb (eo + m * 35) e.cells _ rfl hR hu rfl hin ?_)
          | (refine wlI_load (by rfl) 45 _ rfl wr.heap.size 0 e.cells _ rfl hXr hu rfl hin ?_)
          | (refine wlI_store_new (by rfl) 45 _ _ rfl e.cells _ _ rfl rfl hin (by rw [Ent.cells_length hef]; rfl) (Ent.cells_one hef) ?_))
        refine hRR.mono ?_
        rintro e3 W3 (⟨rfl, hJ3, hk1, hk2⟩ | ⟨rfl, hJx3⟩)
        · gi_wp2
          go_roundw
          case rel => exact ⟨m + 1, by omega, int_eq (by omega), by rw [HT.out, HS.out, HG.out, if_pos rfl, HL.out]; exact hJ3, hk1.trans HB1.out, hk2.trans HB2.out⟩
          case measure => simp [intOf]; omega
        · gi_wp2
          refine bodyPost_ret (results_none rfl _ _ _) rfl ?_
          exact ⟨⟨_, rfl⟩, .inr ⟨_, trivial, hJx3⟩⟩
    · obtain rfl : m = es.length := by omega
      rw [List.take_length] at hJs
      gi_wp2
      go_end0
      exact ⟨⟨_, rfl⟩, .inl ⟨_, rfl, hJs⟩⟩
theorem gone_in (p : Option Addr) (n c : Nat) (w : World) : CallsIn Fence.wide 3 Tryd.prog 31 #[.slice p n c] w fun e w' =>
    e = .returned (.func (.func 56) #[] #[.pointer (some ⟨w.heap.size, 0, none⟩)]) ∧ w' = w.alloc (.cells #[.slice p n c] 39) := by
  refine callsIn_of_wp Tryd.func31 rfl trivial ?_ rfl
  simp only [Tryd.ntmps31, List.size_toArray, List.length_cons, List.length_nil, Nat.reduceAdd, Nat.reduceSub, Array.replicate_succ, Array.replicate_zero, List.push_toArray, List.append_toArray, List.nil_append, List.cons_append]
  gi_wp2
  go_ret
  exact ⟨rfl, rfl⟩
/-- A gone entry, with its number. -/
abbrev GEnt := { x : Int × Ent // x.2.fit }
theorem gone_stops (p : Option Addr) (Bs eb eo ec : Nat) (es : List Ent) (w : World) (hes : ∀ e ∈ es, e.fit) (hel : es.length ≤ 100000) (hbl : Bs < w.heap.size) (hel' : eb < w.heap.size) (hBs : w.cell? ⟨Bs, 0, none⟩ = some (.slice p es.length ec)) (hp : es = [] ∨ p = some ⟨eb, eo, none⟩) (hA : At w eb eo (es.flatMap Ent.cells)) :
    SeqStopsK Fence.wide 3 Tryd.prog 56 #[.pointer (some ⟨Bs, 0, none⟩)] (fun x : GEnt => #[Value.int .i64 x.1.1, Value.agg x.1.2.cells.toArray]) (fun W W' => W'.heap[Bs]? = W.heap[Bs]? ∧ W'.heap[eb]? = W.heap[eb]?) (fun ys => ys.map (·.1) = goneL es) (fun _ => True) es.length w := by
  intro l J Jx W hW hJ _ hY h0
  have e1 := hW.block Bs hbl
  have e2 := hW.block eb hel'
  refine (gone1_in p l Bs eb eo ec es hes hel (fun pre W => ∃ pre' : List GEnt, pre'.map (·.1) = pre ∧ J pre' W) (fun pre W => ∃ pre' : List GEnt, pre'.map (·.1) = pre ∧ Jx pre' W) W ?_ ?_ ((World.cell?_of_block (a := ⟨Bs, 0, none⟩) e1).trans hBs) hp (hA.of_heap e2) (lt_of_same hbl e1) (lt_of_same hel' e2) ⟨[], rfl, h0⟩).mono ?_
  · rintro s W W' row ⟨pre', e, h⟩ hg hr
    exact ⟨pre', e, hJ _ _ _ _ h hg hr⟩
  · rintro pre x W1 hx ⟨pre', rfl, hj⟩ hlen
    obtain ⟨fn, tmps, assign, body, hy, hR⟩ := hY pre' ⟨x, hx⟩ W1 hj (by simpa using hlen)
    refine ⟨fn, tmps, assign, body, hy, hR.mono ?_⟩
    rintro e W' (⟨rfl, h1, h2, h3⟩ | ⟨rfl, h1⟩)
    · exact .inl ⟨rfl, ⟨pre' ++ [⟨x, hx⟩], by simp, h1⟩, h2, h3⟩
    · exact .inr ⟨rfl, pre' ++ [⟨x, hx⟩], by simp, h1⟩
  · rintro e W' ⟨he, ⟨ys, rfl, pre', e2, hj⟩ | ⟨pre, _, pre', _, hj⟩⟩
    · exact ⟨he, .inl ⟨pre', e2, hj⟩⟩
    · exact ⟨he, .inr ⟨pre', trivial, hj⟩⟩
end Go.Proofs.YtjibmhmaoegcnaaDoor
namespace Go.Proofs.YtjibmhmaoegcnaaDoor
open Go.RowKit Go.Shelf
set_option linter.unusedVariables false
attribute [local go_sem] Oper.semAt_some
/-- The numbers that Wrong names among those that are gone. -/
def wrongG (least : Int) (pre : List (Int × Ent)) : List Int := pre.filterMap fun x => if x.2.k ≠ 4 ∨ least < x.1 then some x.1 else none
theorem wrongG_snoc (least : Int) (pre : List (Int × Ent)) (x : Int × Ent) : wrongG least (pre ++ [x]) = if x.2.k ≠ 4 ∨ least < x.1 then wrongG least pre ++ [x.1] else wrongG least pre := by
  unfold wrongG
  rw [List.filterMap_append]
  by_cases h : x.2.k ≠ 4 ∨ least < x.1
  · rw [if_pos h]; simp only [List.filterMap_cons, List.filterMap_nil, if_pos h]
  · rw [if_neg h]; simp only [List.filterMap_cons, List.filterMap_nil, if_neg h, List.append_nil]
def wrongV (fo st : Int) (l : List Ack) (ms : List Mem) (es : List Ent) : List Int := wrongG (leastV fo st l ms) (goneL es)
/-- A row of numbers that the call owns. -/
abbrev OwnI (w : World) (B : Nat) (v : Value) (xs : List Int) : Prop := w.ownsRow B 3 1 v xs.length (xs.map I64)
theorem blk_keeps {W : World} {b : Nat} {e : TypeId} {cs : List Value} (h : Blk W b e cs) {row : Option Nat} (hr : ∀ r, row = some r → ∃ o : Obj, W.heap[r]? = some o ∧ o.isCells = false) : some b ≠ row := by
  intro e'
  obtain ⟨o, ho, hc⟩ := hr b e'.symm
  unfold Blk at h
  rw [h] at ho
  cases ho
  cases hc
theorem own_keeps {W : World} {B s n : Nat} {e : TypeId} {v : Value} {xs : List Value} (h : W.ownsRow B e s v n xs) {row : Option Nat} (hr : ∀ r, row = some r → ∃ o : Obj, W.heap[r]? = some o ∧ o.isCells = false) : v.ownBlock = none ∨ v.ownBlock ≠ row := by
  obtain ⟨_, ⟨rfl, _⟩ | ⟨g, cap, cur, rfl, hg, hb, _⟩⟩ := h
  · exact .inl rfl
  · refine .inr fun e' => ?_
    obtain ⟨o, ho, hc⟩ := hr g e'.symm
    rw [hb] at ho
    cases ho
    cases hc
/-- What Wrong holds while it goes through the entries. -/
structure WI (T10 T11 B : Nat) (least : Int) (pre : List GEnt) (W : World) : Prop where
  ex : ∃ v, Blk W T10 42 [v] ∧ OwnI W B v (wrongG least (pre.map (·.1)))
  least : Blk W T11 3 [.int .i64 least]
  lt : B ≤ W.heap.size
theorem info_int : ∃ i, (Tryd.prog).info? 3 = some i ∧ i.zero = some (.int .i64 0) ∧ i.size = 1 ∧ i.bytes = 8 := by
  have h : ((Tryd.prog).info? 3).map (fun i => (i.zero, i.size, i.bytes)) = some (some (.int .i64 0), 1, 8) := by kernel_rfl
  cases hq : (Tryd.prog).info? 3 with
  | none => simp [hq] at h
  | some i => simp [hq] at h; exact ⟨i, rfl, h.1, h.2.1, h.2.2⟩
theorem OwnI.form {w : World} {B : Nat} {v : Value} {xs : List Int} (h : OwnI w B v xs) : ∃ p m c, v = .slice p m c := by
  obtain ⟨_, ⟨rfl, _⟩ | ⟨g, cap, cur, rfl, _⟩⟩ := h <;> exact ⟨_, _, _, rfl⟩
theorem own_cells {W : World} {B s n : Nat} {e : TypeId} {v : Value} {xs : List Value} (h : W.ownsRow B e s v n xs) (j : Nat) (o : Obj) (hj : v.ownBlock = some j) (ho : W.heap[j]? = some o) : o.isCells = true := by
  obtain ⟨_, ⟨rfl, _⟩ | ⟨g, cap, cur, rfl, hg, hb, _⟩⟩ := h
  · cases hj
  · have e : g = j := by simpa [Value.ownBlock] using hj
    subst e
    rw [hb] at ho
    cases ho
    rfl
/-- A number more is named. -/
theorem WI.step {T10 T11 B : Nat} {least : Int} {w W w6 : World} {pre : List GEnt} {x : GEnt} {v v' : Value} {Bs eb : Nat} (hv : Blk W T10 42 [v]) (hown : OwnI W B v (wrongG least (pre.map (·.1)))) (hl : Blk W T11 3 [.int .i64 least]) (hlt : B ≤ W.heap.size)
    (h1 : T10 < B) (h2 : T11 < B) (h12 : T10 ≠ T11) (hBs : Bs < B) (heb : eb < B) (hBs' : Bs ≠ T10) (heb' : eb ≠ T10) (hw : w.heap.size ≤ T10) (hwB : Below w.heap.size w W) (hx : wrongG least ((pre ++ [x]).map (·.1)) = wrongG least (pre.map (·.1)) ++ [x.1.1])
    (hgrow : Gr (W.alloc (.cells #[.int .i64 x.1.1] 3)) v.ownBlock w6) (hown6 : OwnI w6 B v' (wrongG least (pre.map (·.1)) ++ [x.1.1])) :
    KeepsFrom B W (w6.setCell ⟨T10, 0, none⟩ v') ∧ ((w6.setCell ⟨T10, 0, none⟩ v').heap[Bs]? = W.heap[Bs]? ∧ (w6.setCell ⟨T10, 0, none⟩ v').heap[eb]? = W.heap[eb]?) ∧ WI T10 T11 B least (pre ++ [x]) (w6.setCell ⟨T10, 0, none⟩ v') ∧ Below w.heap.size w (w6.setCell ⟨T10, 0, none⟩ v') := by
  have hge := own_ge hown
  have hge6 := own_ge hown6
  have ne : ∀ b, b < B → some b ≠ v.ownBlock := fun b hb e => by have := hge b e.symm; omega
  have hownA := World.ownsRow.kept hown (World.grownBy_alloc W (.cells #[.int .i64 x.1.1] 3) none) (by cases v.ownBlock <;> simp)
  have hGX : Gr w6 (some T10) (w6.setCell ⟨T10, 0, none⟩ v') := (Gr.refl _ _).setCell (.inr rfl) _
  have same : ∀ b, b < B → b ≠ T10 → (w6.setCell ⟨T10, 0, none⟩ v').heap[b]? = W.heap[b]? := fun b hb hne =>
    (hGX.block b (Nat.lt_of_lt_of_le (by rw [World.size_alloc]; omega) hgrow.size) (by simpa using hne)).trans ((hgrow.block b (by rw [World.size_alloc]; omega) (ne b hb)).trans (Below.heap_alloc W _ b (by omega)))
  have hG : Gr w none (w6.setCell ⟨T10, 0, none⟩ v') := ((((Gr.of_below hwB : Gr w none W).alloc _).on hgrow fun b e => .inl (by have := hge b e; omega))).setCell (.inl hw) _
  refine ⟨(((KeepsOthers.alloc W _).trans (KeepsOthers.of_grownBy hgrow fun j o hj ho => own_cells hownA j o hj ho)).trans (KeepsOthers.setCell _ _ _)).from B, ⟨same Bs hBs hBs', same eb heb heb'⟩, ⟨⟨v', ((hv.alloc _).grown hgrow (ne _ h1)).set 0 v', ?_⟩, ((hl.alloc _).grown hgrow (ne _ h2)).other (Ne.symm h12) _, ?_⟩, hG.below⟩
  · rw [hx]
    exact World.ownsRow.kept hown6 hGX (by
      cases hq : v'.ownBlock with
      | none => exact .inl rfl
      | some y => refine .inr fun e => ?_; cases e; have := hge6 _ hq; omega)
  · have := hgrow.size
    rw [World.size_alloc] at this
    have h3 := hGX.size
    omega
theorem WI.own {T10 T11 B : Nat} {least : Int} (B' : Nat) : OwnFrom B' (WI T10 T11 B least) := by
  intro s W W' row h hg hr
  have hr' := fun r e => (hr r e).2
  obtain ⟨v, h1, h2⟩ := h.ex
  exact ⟨⟨v, h1.grown hg (blk_keeps h1 hr'), World.ownsRow.kept h2 hg (own_keeps h2 hr')⟩, h.least.grown hg (blk_keeps h.least hr'), Nat.le_trans h.lt hg.size⟩
theorem own_mono {w : World} {B B' s n : Nat} {e : TypeId} {v : Value} {xs : List Value} (h : w.ownsRow B e s v n xs) (hb : B' ≤ B) : w.ownsRow B' e s v n xs :=
  ⟨h.1, h.2.imp id fun ⟨g, cap, cur, h1, h2, h3⟩ => ⟨g, cap, cur, h1, Nat.le_trans hb h2, h3⟩⟩
theorem load_ints (w : World) (a : Addr) (v : Value) (h : w.cell? a = some v) : (loadVar 42 a).run Tryd.prog w = .ok v w := by
  simp [go_sem, loadVar, h]
set_option maxHeartbeats 2000000 in
set_option maxRecDepth 100000 in
theorem wrong_in (mp lp ep : Option Addr) (mb mo lb lo eb eo mc lc ec : Nat) (fo st : Int) (ms : List Mem) (l : List Ack) (es : List Ent) (w : World) (hK : Laid w) (hl : ∀ a ∈ l, a.ch.length = 32 ∧ a.ints) (hll : l.length ≤ 1000) (hml : ms.length ≤ 1000) (hmd : ∀ m ∈ ms, i64ok m.d)
    (hlp : l = [] ∨ (lp = some ⟨lb, lo, none⟩ ∧ lb < w.heap.size ∧ At w lb lo (l.flatMap Ack.cells))) (hmp : ms = [] ∨ (mp = some ⟨mb, mo, none⟩ ∧ mb < w.heap.size ∧ At w mb mo (ms.flatMap Mem.cells)))
    (hes : ∀ e ∈ es, e.fit) (hel : es.length ≤ 1000) (hep : es = [] ∨ ep = some ⟨eb, eo, none⟩) (heb : eb < w.heap.size) (hA : At w eb eo (es.flatMap Ent.cells)) :
    CallsIn Fence.wide 4 Tryd.prog 14 #[.slice mp ms.length mc, .int .i64 fo, .int .i64 st, .slice lp l.length lc, .slice ep es.length ec] w fun e w' => (∃ v, e = .returned v ∧ OwnI w' w.heap.size v (wrongV fo st l ms es)) ∧ Below w.heap.size w w' := by
  refine callsIn_of_wp_marks Tryd.func14 rfl trivial ?_ rfl
  simp only [Tryd.ntmps14, List.size_toArray, List.length_cons, List.length_nil, Nat.reduceAdd, Nat.reduceSub, Array.replicate_succ, Array.replicate_zero, List.push_toArray, List.append_toArray, List.nil_append, List.cons_append]
  have hg0 : Gr w none (w.alloc (.cells #[.slice none 0 0] 42)) := (Gr.refl _ _).alloc _
  have hLe := least_at mp lp mb mo lb lo mc lc fo st ms l (w.alloc (.cells #[.slice none 0 0] 42)) (hK.new hg0) hl hll hml hmd (hlp.imp_right fun h => ⟨h.1, Nat.lt_of_lt_of_le h.2.1 hg0.size, h.2.2.grown hg0 (by simp)⟩) (hmp.imp_right fun h => ⟨h.1, Nat.lt_of_lt_of_le h.2.1 hg0.size, h.2.2.grown hg0 (by simp)⟩)
  gi_wp2_with (refine ⟨trivial, ?_⟩; first
    | (gi_at_call 19; refine (callsIn_wide.2 hLe).mono ?_; rintro e w1 ⟨rfl, hG1⟩)
    | (gi_at_call 31; refine (gone_in _ _ _ _).mono ?_; rintro e w' ⟨rfl, rfl⟩))
  have hG01 : Gr w none w1 := hg0.trans hG1
  have hT10 := (((Blk.new w 42 [.slice none 0 0]).grown hG1 (by simp)).alloc (.cells #[.int .i64 (leastV fo st l ms)] 3)).alloc (.cells #[.slice ep es.length ec] 39)
  have hT11 := (Blk.new w1 3 [.int .i64 (leastV fo st l ms)]).alloc (.cells #[.slice ep es.length ec] 39)
  have hBx := Blk.new (w1.alloc (.cells #[.int .i64 (leastV fo st l ms)] 3)) 39 [.slice ep es.length ec]
  have hG0 := (hG01.alloc (.cells #[.int .i64 (leastV fo st l ms)] 3)).alloc (.cells #[.slice ep es.length ec] 39)
  rw [World.size_alloc] at hBx
  have hA0 := hA.grown hG0 (by simp)
  have hlt1 : w.heap.size < w1.heap.size := Nat.lt_of_lt_of_le (by rw [World.size_alloc]; omega) hG1.size
  change Code.wpIn _ _ _ _ _ _ ((w1.alloc (.cells #[.int .i64 (leastV fo st l ms)] 3)).alloc (.cells #[.slice ep es.length ec] 39))
  have hsz : ((w1.alloc (.cells #[.int .i64 (leastV fo st l ms)] 3)).alloc (.cells #[.slice ep es.length ec] 39)).heap.size = w1.heap.size + 2 := by rw [World.size_alloc, World.size_alloc]
  generalize ((w1.alloc (.cells #[.int .i64 (leastV fo st l ms)] 3)).alloc (.cells #[.slice ep es.length ec] 39)) = W0 at *
  have heb0 : eb < w1.heap.size := Nat.lt_of_lt_of_le heb hG01.size
  refine wpIn_rangeFunc_ownH rfl (by decide) (gf := 56) (lb := #[.pointer (some ⟨w1.heap.size + 1, 0, none⟩)]) rfl trivial (enters_of Tryd.func56 (by kernel_rfl) rfl)
    (gone_stops ep (w1.heap.size + 1) eb eo ec es W0 hes (by omega) hBx.lt (by omega) (hBx.cell? 0) hep hA0)
    (fun h k => ⟨k.1.trans h.1, k.2.trans h.2⟩)
    (fun W l' o o' hl' ho hc _ => ⟨(grownBy_putObj' W l' o').block _ (by have := (Array.getElem?_eq_some_iff.1 ho).1; omega) (by intro e; cases e; omega), (grownBy_putObj' W l' o').block _ (by have := (Array.getElem?_eq_some_iff.1 ho).1; omega) (by intro e; cases e; omega)⟩)
    (Below.refl _ _) (fun _ => rfl)
    (fun pre W => WI w.heap.size w1.heap.size (w1.heap.size + 2) (leastV fo st l ms) pre W ∧ Below w.heap.size w W)
    (fun _ _ _ => False)
    (OwnFrom.and (WI.own _) (ownFrom_below (Nat.le_refl _) (by omega)))
    (fun _ _ _ _ _ hs _ _ => hs)
    ⟨⟨⟨_, hT10, World.ownsRow_nil _ _ _ _⟩, hT11, Nat.le_of_eq hsz.symm⟩, hG0.below⟩
    (fun x a' W => ∃ Y, a' = { tmps := #[.slice mp ms.length mc, .int .i64 fo, .int .i64 st, .slice lp l.length lc, .slice ep es.length ec, undef, undef, undef, undef, undef, .pointer (some ⟨w.heap.size, 0, none⟩), .pointer (some ⟨w1.heap.size, 0, none⟩), .int .i64 x.1.1, .pointer (some ⟨Y, 0, none⟩), .slice mp ms.length mc, .int .i64 fo, .int .i64 st, .slice lp l.length lc, .int .i64 (leastV fo st l ms), .slice ep es.length ec, .func (.func 56) #[] #[.pointer (some ⟨w1.heap.size + 1, 0, none⟩)], .int .i64 x.1.1, .agg x.1.2.cells.toArray, undef, undef, undef, undef, undef, undef, undef, undef, undef, undef, undef, undef, undef], defers := [] } ∧ Blk W Y 45 x.1.2.cells ∧ (w1.heap.size + 2) ≤ Y)
    (fun x a' => fun s W W' row h hg hr => by
      obtain ⟨Y, e, hb, hY⟩ := h
      exact ⟨Y, e, hb.grown hg (blk_keeps hb fun r e => (hr r e).2), hY⟩)
    ?assign ?body ?done ?stop
  case assign =>
    rintro l' pre x W K hI hK2
    have hin : ((Tryd.prog).info? 45).map (·.size) = some x.1.2.cells.length := by rw [Ent.cells_length x.2]; kernel_rfl
    gi_wp2_with (refine wlI_store_new (by rfl) 45 _ _ rfl x.1.2.cells _ _ rfl rfl hin (by rw [Ent.cells_length x.2]; rfl) (Ent.cells_one x.2) ?_)
    have hIa := OwnFrom.alloc (OwnFrom.and (WI.own (w1.heap.size + 2)) (ownFrom_below (Nat.le_refl _) (by omega))) (.cells x.1.2.cells.toArray 45) hI
    exact hK2 _ _ ((KeepsOthers.alloc W _).from _) ⟨Below.heap_alloc W _ _ (by have := hI.1.lt; omega), Below.heap_alloc W _ _ (by have := hI.1.lt; omega)⟩ hIa ⟨W.heap.size, rfl, Blk.new W _ _, hI.1.lt⟩
  case body =>
    rintro l' pre x a' W hl' hlo ⟨hW, hB⟩ ⟨Y, rfl, hY, hYB⟩ hlen
    obtain ⟨v, hv, hown⟩ := hW.ex
    have c10 := hv.cell? 0
    have f10 := hv.free 0
    have c11 := hW.least.cell? 0
    have y0 : W.cell? ⟨Y, 0, none⟩ = some (.int .i64 x.1.2.k) := hY.cell? 0
    have HWG := Lib.hid (wrongG_snoc (leastV fo st l ms) (pre.map (·.1)) x.1)
    obtain ⟨p9, m9, c9, rfl⟩ := hown.form
    obtain ⟨ii, hi, hz0, hz1, hz2⟩ := info_int
    generalize leastV fo st l ms = least at *
    have hat : ∀ (j : Nat) (u : Value), [Value.int .i64 x.1.1][j]? = some u → (W.alloc (.cells #[.int .i64 x.1.1] 3)).cell? ((⟨W.heap.size, 0, none⟩ : Addr).add j) = some u := cell_one_new W _ _
    have hwl : (wrongG least (pre.map (·.1))).length ≤ 1000 := by
      have := List.length_filterMap_le (fun x : Int × Ent => if x.2.k ≠ 4 ∨ least < x.1 then some x.1 else none) (pre.map (·.1))
      rw [List.length_map] at this
      unfold wrongG
      omega
    have hb1 : (wrongG least (pre.map (·.1))).length + 1 ≤ maxLen := by unfold maxLen; omega
    have hb2 : ((wrongG least (pre.map (·.1))).length + 1) * 8 ≤ 140737488355328 := by omega
    have hb3 : (w1.heap.size + 2) ≤ (W.alloc (.cells #[.int .i64 x.1.1] 3)).heap.size := by rw [World.size_alloc]; have := hW.lt; omega
    have hne10 : some w.heap.size ≠ (Value.slice p9 m9 c9).ownBlock := fun e => by have := own_ge hown _ e.symm; omega
    by_cases hk : x.1.2.k = 4
    · by_cases hgt : least < x.1.1
      · have HX := Lib.hid (show wrongG least ((pre ++ [x]).map (·.1)) = wrongG least (pre.map (·.1)) ++ [x.1.1] by rw [List.map_append, List.map_singleton, HWG.out, if_pos (.inr hgt)])
        gi_wp2_with (gi_at_builtin; refine wpListIn_append_own_at _ rfl _ _ 42 rfl (w1.heap.size + 2) 3 ii (.int .i64 0) 1 8 Tryd.underlying42 hi hz0 hz1 hz2 rfl (by decide) (.slice p9 m9 c9) _ _ rfl (hown.alloc _) ⟨W.heap.size, 0, none⟩ 1 1 [.int .i64 x.1.1] rfl rfl hat (by simp [Value.oneCell']) hb1 hb2 hb3 ?_; intro v6 w6 hown6 hgrow6 hnil6 hlies6; have k10 := ((hv.alloc (.cells #[.int .i64 x.1.1] 3)).grown hgrow6 hne10).cell? 0; have kf10 := ((hv.alloc (.cells #[.int .i64 x.1.1] 3)).grown hgrow6 hne10).free 0; obtain ⟨p6, m6, c6, rfl⟩ := OwnI.form (xs := wrongG least (pre.map (·.1)) ++ [x.1.1]) (by show w6.ownsRow _ _ _ _ _ _; rw [List.length_append, List.map_append]; exact hown6))
        have hown6' : OwnI w6 (w1.heap.size + 2) (.slice p6 m6 c6) (wrongG least (pre.map (·.1)) ++ [x.1.1]) := by
          show w6.ownsRow _ _ _ _ _ _
          rw [List.length_append, List.map_append]
          exact hown6
        exact WI.step (Bs := w1.heap.size + 1) (eb := eb) hv hown hW.least hW.lt (by omega) (by omega) (by omega) (by omega) (by omega) (by omega) (by omega) (Nat.le_refl _) hB HX.out hgrow6 hown6'
      · have HX := Lib.hid (show wrongG least ((pre ++ [x]).map (·.1)) = wrongG least (pre.map (·.1)) by rw [List.map_append, List.map_singleton, HWG.out, if_neg (fun h => h.elim (fun h => h hk) hgt)])
        gi_wp2_with fail
        exact ⟨KeepsFrom.refl _ _, ⟨rfl, rfl⟩, ⟨⟨_, hv, by rw [HX.out]; exact hown⟩, hW.least, hW.lt⟩, hB⟩
    · have HX := Lib.hid (show wrongG least ((pre ++ [x]).map (·.1)) = wrongG least (pre.map (·.1)) ++ [x.1.1] by rw [List.map_append, List.map_singleton, HWG.out, if_pos (.inl hk)])
      gi_wp2_with (gi_at_builtin; refine wpListIn_append_own_at _ rfl _ _ 42 rfl (w1.heap.size + 2) 3 ii (.int .i64 0) 1 8 Tryd.underlying42 hi hz0 hz1 hz2 rfl (by decide) (.slice p9 m9 c9) _ _ rfl (hown.alloc _) ⟨W.heap.size, 0, none⟩ 1 1 [.int .i64 x.1.1] rfl rfl hat (by simp [Value.oneCell']) hb1 hb2 hb3 ?_; intro v6 w6 hown6 hgrow6 hnil6 hlies6; have k10 := ((hv.alloc (.cells #[.int .i64 x.1.1] 3)).grown hgrow6 hne10).cell? 0; have kf10 := ((hv.alloc (.cells #[.int .i64 x.1.1] 3)).grown hgrow6 hne10).free 0; obtain ⟨p6, m6, c6, rfl⟩ := OwnI.form (xs := wrongG least (pre.map (·.1)) ++ [x.1.1]) (by show w6.ownsRow _ _ _ _ _ _; rw [List.length_append, List.map_append]; exact hown6))
      have hown6' : OwnI w6 (w1.heap.size + 2) (.slice p6 m6 c6) (wrongG least (pre.map (·.1)) ++ [x.1.1]) := by
        show w6.ownsRow _ _ _ _ _ _
        rw [List.length_append, List.map_append]
        exact hown6
      exact WI.step (Bs := w1.heap.size + 1) (eb := eb) hv hown hW.least hW.lt (by omega) (by omega) (by omega) (by omega) (by omega) (by omega) (by omega) (Nat.le_refl _) hB HX.out hgrow6 hown6'
  case done =>
    rintro D ys W hD hys ⟨hW, hB⟩ hK2
    obtain ⟨v, hv, hown⟩ := hW.ex
    obtain ⟨p9, m9, c9, rfl⟩ := hown.form
    have c10 := hv.cell? 0
    have f10 := hv.free 0
    gi_wp2_with fail
    have hge := own_ge hown
    have hv1 := hv.set 0 (.slice p9 m9 c9)
    have hd1 : (W.setCell ⟨w.heap.size, 0, none⟩ (.slice p9 m9 c9)).heap[D]? = some (.deferred (some [])) := (Below.heap_setCell W ⟨w.heap.size, 0, none⟩ (.slice p9 m9 c9) D (by show D ≠ w.heap.size; omega)).trans hK2
    have hG2 : Gr W (some w.heap.size) (W.setCell ⟨w.heap.size, 0, none⟩ (.slice p9 m9 c9)) := (Gr.refl _ _).setCell (.inr rfl) _
    have hown2 := World.ownsRow.kept hown hG2 (by
      cases hq : (Value.slice p9 m9 c9).ownBlock with
      | none => exact .inl rfl
      | some y => refine .inr fun e => ?_; cases e; have := hge _ hq; omega)
    have hG3 := grownBy_putObj' (W.setCell ⟨w.heap.size, 0, none⟩ (.slice p9 m9 c9)) D (.deferred none)
    have hrow : ∀ r, some D = some r → ∃ o : Obj, (W.setCell ⟨w.heap.size, 0, none⟩ (.slice p9 m9 c9)).heap[r]? = some o ∧ o.isCells = false := fun r e => by cases e; exact ⟨_, hd1, rfl⟩
    have hv2 := hv1.grown hG3 (blk_keeps hv1 hrow)
    have hown3 := World.ownsRow.kept hown2 hG3 (own_keeps hown2 hrow)
    refine ⟨by simp, .inl ⟨_, _, rfl, run_takeDeferred hd1, ?_⟩⟩
    refine ⟨_, results_cell1 rfl _ _ _ _ rfl (load_ints _ _ _ (hv2.cell? 0)), ⟨_, rfl, ?_⟩, ?_⟩
    · have h := own_mono (B' := w.heap.size) hown3 (by omega)
      show World.ownsRow _ _ _ _ _ _ _
      unfold wrongV
      rw [← hys]
      exact h
    · exact ((Gr.of_below hB : Gr w none W).setCell (b := w.heap.size) (i := 0) (.inl (Nat.le_refl _)) (.slice p9 m9 c9)).below.trans (belowK_b (w := w) (Nat.le_refl _) _ D _ _ (by omega) hd1 rfl rfl)
  case stop =>
    rintro D c pre W _ _ h _
    exact h.elim
theorem wrong_at (mp lp ep : Option Addr) (mb mo lb lo eb eo mc lc ec : Nat) (fo st : Int) (ms : List Mem) (l : List Ack) (es : List Ent) (w : World) (hK : Laid w) (hl : ∀ a ∈ l, a.ch.length = 32 ∧ a.ints) (hll : l.length ≤ 1000) (hml : ms.length ≤ 1000) (hmd : ∀ m ∈ ms, i64ok m.d)
    (hlp : l = [] ∨ (lp = some ⟨lb, lo, none⟩ ∧ lb < w.heap.size ∧ At w lb lo (l.flatMap Ack.cells))) (hmp : ms = [] ∨ (mp = some ⟨mb, mo, none⟩ ∧ mb < w.heap.size ∧ At w mb mo (ms.flatMap Mem.cells)))
    (hes : ∀ e ∈ es, e.fit) (hel : es.length ≤ 1000) (hep : es = [] ∨ ep = some ⟨eb, eo, none⟩) (heb : eb < w.heap.size) (hA : At w eb eo (es.flatMap Ent.cells)) :
    Calls Tryd.prog 14 #[.slice mp ms.length mc, .int .i64 fo, .int .i64 st, .slice lp l.length lc, .slice ep es.length ec] w fun e w' => ∃ v, e = .returned v ∧ OwnI w' w.heap.size v (wrongV fo st l ms es) ∧ Gr w none w' :=
  Calls.mono (callsIn_wide.1 (wrong_in mp lp ep mb mo lb lo eb eo mc lc ec fo st ms l es w hK hl hll hml hmd hlp hmp hes hel hep heb hA)) fun e w' ⟨⟨v, h1, h2⟩, h3⟩ => ⟨v, h1, h2, Gr.of_below h3⟩
theorem wrong_any (mp lp ep : Option Addr) (mb lb eb mc lc ec : Nat) (fo st : Int) (ms : List Mem) (l : List Ack) (es : List Ent) (w : World) (hK : Laid w) (hl : ∀ a ∈ l, a.ch.length = 32 ∧ a.ints) (hll : l.length ≤ 1000) (hml : ms.length ≤ 1000) (hmd : ∀ m ∈ ms, i64ok m.d)
    (hlp : l = [] ∨ (lp = some ⟨lb, 0, none⟩ ∧ lb < w.heap.size ∧ At w lb 0 (l.flatMap Ack.cells))) (hmp : ms = [] ∨ (mp = some ⟨mb, 0, none⟩ ∧ mb < w.heap.size ∧ At w mb 0 (ms.flatMap Mem.cells)))
    (hes : ∀ e ∈ es, e.fit) (hel : es.length ≤ 1000) (hep : es = [] ∨ ep = some ⟨eb, 0, none⟩) (heb : eb < w.heap.size) (hA : At w eb 0 (es.flatMap Ent.cells)) :
    Calls Tryd.prog 14 #[.slice mp ms.length mc, .int .i64 fo, .int .i64 st, .slice lp l.length lc, .slice ep es.length ec] w fun e w' => ∃ v, e = .returned v ∧ OwnI w' w.heap.size v (wrongV fo st l ms es) ∧ Gr w none w' :=
  wrong_at mp lp ep mb 0 lb 0 eb 0 mc lc ec fo st ms l es w hK hl hll hml hmd hlp hmp hes hel hep heb hA
end Go.Proofs.YtjibmhmaoegcnaaDoor
