/- Parts of a proof, joined by program: AckDec3, AckDec4, Last, Maps, Groups. -/
import Derived.Test.YtjibmhmaoegcnaaDoorK7
import Derived.Deep.RegionLaw
import Derived.Deep.RegionHeld3
import Derived.Maps.Own
import Derived.Maps.Views
namespace Go.Proofs.YtjibmhmaoegcnaaDoor
open Go.RowKit Go.Shelf
set_option linter.unusedVariables false
attribute [local go_sem ↓] Go.wp_at_zero Go.wp_at_succ
theorem conv_bytes (w : World) (b o cap : Nat) (s : List UInt8) (hA : At w b o (s.map B8)) : (convert 28 9 (.slice (some ⟨b, o, none⟩) s.length cap)).run Tryd.prog w = .ok (.string ⟨s.toArray⟩) w := by
  refine run_convert_bytes_back w 28 9 5 ⟨b, o, none⟩ cap s Tryd.underlying28 Tryd.underlying5 Tryd.underlying9 ?_
  intro j hj
  rw [Addr.add_lit]
  have := hA j (by simpa using hj)
  rw [this, List.getElem_map]; rfl
theorem bytes_eq (a b : List UInt8) : ((ByteArray.mk a.toArray).toList == (ByteArray.mk b.toArray).toList) = decide (a = b) := by
  rw [ByteArray.toList_eq, ByteArray.toList_eq]
  by_cases h : a = b
  · simp [h]
  · simp [h]
theorem setRow_new_drew (w : World) (c : Array Value) (e : TypeId) (cs : Array Value) : ((w.alloc (.cells c e (0, 0))).drew).setRow w.heap.size cs = (w.alloc (.cells cs e (0, 0))).drew := by
  show ((w.alloc (.cells c e (0, 0))).setRow w.heap.size cs).drew = _
  rw [setRow_new]
theorem EncPost.no {w w' : World} {a : Ack} {e : Ending} (h : EncPost w a e w') (hf : a.formed = false) : Gr w none w' ∧ e = .returned (.tuple #[.slice none 0 0, .int .i64 330]) := by
  unfold EncPost at h; rw [hf] at h; exact h
theorem EncPost.yes {w w' : World} {a : Ack} {e : Ending} (h : EncPost w a e w') (hf : a.formed = true) : Gr w none w' ∧ ∃ v, e = .returned (.tuple #[v, .int .i64 0]) ∧ OwnB w' w.heap.size v a.enc ∧ v ≠ .slice none 0 0 := by
  unfold EncPost at h; rw [hf] at h; exact h
/-- What Decode answers for an acknowledgement that it has read out of bytes. -/
def adecV (x : Ack) (l : List UInt8) : Value := if x.formed = true ∧ x.enc = l then .tuple #[.agg x.cells.toArray, .int .i64 0] else .tuple #[.agg zeroAck.cells.toArray, .int .i64 330]
/-- Seven values in a row: what is read of them. -/
structure SE (b : Nat) (n0 n1 n2 n3 : Int) (s : List UInt8) (n5 n6 : Int) (w : World) : Prop where
  lt : b < w.heap.size
  c0 : w.cell? ⟨b, 1, none⟩ = some (.int .i64 n0)
  c1 : w.cell? ⟨b, 5, none⟩ = some (.int .i64 n1)
  c2 : w.cell? ⟨b, 9, none⟩ = some (.int .i64 n2)
  c3 : w.cell? ⟨b, 13, none⟩ = some (.int .i64 n3)
  c4 : w.cell? ⟨b, 18, none⟩ = some (.string ⟨s.toArray⟩)
  c5 : w.cell? ⟨b, 21, none⟩ = some (.int .i64 n5)
  c6 : w.cell? ⟨b, 25, none⟩ = some (.int .i64 n6)
theorem SE.grown {b : Nat} {n0 n1 n2 n3 n5 n6 : Int} {s : List UInt8} {w w' : World} (h : SE b n0 n1 n2 n3 s n5 n6 w) {row : Option Nat} (hg : Gr w row w') (hne : some b ≠ row) : SE b n0 n1 n2 n3 s n5 n6 w' :=
  ⟨Nat.lt_of_lt_of_le h.lt hg.size, hg.cell h.c0 hne, hg.cell h.c1 hne, hg.cell h.c2 hne, hg.cell h.c3 hne, hg.cell h.c4 hne, hg.cell h.c5 hne, hg.cell h.c6 hne⟩
/-- All that Decode reads, while it reads. -/
structure SD (b V : Nat) (cap : Nat) (n0 n1 n2 n3 : Int) (s : List UInt8) (n5 n6 : Int) (w : World) : Prop where
  se : SE b n0 n1 n2 n3 s n5 n6 w
  val : Blk w V 51 [.int .i64 3, .int .i64 0, .string ⟨#[]⟩, .slice (some ⟨b, 0, none⟩) 7 cap]
theorem SD.drew {b V cap : Nat} {n0 n1 n2 n3 n5 n6 : Int} {s : List UInt8} {w : World} (h : SD b V cap n0 n1 n2 n3 s n5 n6 w) : SD b V cap n0 n1 n2 n3 s n5 n6 w.drew := ⟨⟨h.se.lt, h.se.c0, h.se.c1, h.se.c2, h.se.c3, h.se.c4, h.se.c5, h.se.c6⟩, h.val⟩
theorem SD.grown {b V cap : Nat} {n0 n1 n2 n3 n5 n6 : Int} {s : List UInt8} {w w' : World} (h : SD b V cap n0 n1 n2 n3 s n5 n6 w) {row : Option Nat} (hg : Gr w row w') (hne : some b ≠ row) (hv : some V ≠ row) : SD b V cap n0 n1 n2 n3 s n5 n6 w' := ⟨h.se.grown hg hne, h.val.grown hg hv⟩
theorem SD.alloc {b V cap : Nat} {n0 n1 n2 n3 n5 n6 : Int} {s : List UInt8} {w : World} (h : SD b V cap n0 n1 n2 n3 s n5 n6 w) (o : Obj) : SD b V cap n0 n1 n2 n3 s n5 n6 (w.alloc o) := h.grown ((Gr.refl w none).alloc o) (by simp) (by simp)
theorem SD.all {b V cap : Nat} {n0 n1 n2 n3 n5 n6 : Int} {s : List UInt8} {w : World} (h : SD b V cap n0 n1 n2 n3 s n5 n6 w) : w.cell? ⟨V, 3, none⟩ = some (.slice (some ⟨b, 0, none⟩) 7 cap) ∧ w.cell? ⟨b, 1, none⟩ = some (.int .i64 n0) ∧ w.cell? ⟨b, 5, none⟩ = some (.int .i64 n1) ∧ w.cell? ⟨b, 9, none⟩ = some (.int .i64 n2) ∧ w.cell? ⟨b, 13, none⟩ = some (.int .i64 n3) ∧ w.cell? ⟨b, 18, none⟩ = some (.string ⟨s.toArray⟩) ∧ w.cell? ⟨b, 21, none⟩ = some (.int .i64 n5) ∧ w.cell? ⟨b, 25, none⟩ = some (.int .i64 n6) ∧ SD b V cap n0 n1 n2 n3 s n5 n6 w :=
  ⟨h.val.cell? 3, h.se.c0, h.se.c1, h.se.c2, h.se.c3, h.se.c4, h.se.c5, h.se.c6, h⟩
set_option maxHeartbeats 2000000 in
set_option maxRecDepth 100000 in
theorem ackDec_seven (b0 o0 cap0 : Nat) (l : List UInt8) (w : World) (n0 n1 n2 n3 n5 n6 : Int) (s : List UInt8) (hb0 : b0 < w.heap.size) (hA0 : At w b0 o0 (l.map B8)) (hi : (Ack.mk n0 n1 n2 n3 (chOf s) n5 n6).ints)
    (hd : ∀ w, b0 < w.heap.size → At w b0 o0 (l.map B8) → Calls Tryd.prog 28 #[.slice (some ⟨b0, o0, none⟩) l.length cap0] w fun e w' => Gr w none w' ∧ ∃ b cap, e = .returned (.tuple #[.agg #[.int .i64 3, .int .i64 0, .string ⟨#[]⟩, .slice (some ⟨b, 0, none⟩) 7 cap], .int .i64 0]) ∧ SE b n0 n1 n2 n3 s n5 n6 w') :
    Calls Tryd.prog 11 #[.slice (some ⟨b0, o0, none⟩) l.length cap0] w fun e w' => e = .returned (adecV (Ack.mk n0 n1 n2 n3 (chOf s) n5 n6) l) ∧ Gr w none w' := by
  have hz : zeroAck.ch.length = 32 := rfl
  have hin0 : ((Tryd.prog).info? 27).map (·.size) = some zeroAck.cells.length := by rw [Ack.cells_length _ hz]; kernel_rfl
  go_enter Tryd.func11, Tryd.ntmps11
  go_upto_region 1 with fail
  have hZ := Blk.new w 27 zeroAck.cells
  have hG := (Gr.refl w none).alloc (.cells zeroAck.cells.toArray 27)
  change Code.wp _ _ _ _ (w.alloc (.cells zeroAck.cells.toArray 27))
  generalize (w.alloc (.cells zeroAck.cells.toArray 27)) = W at *
  have hdW := hd W (Nat.lt_of_lt_of_le hb0 hG.size) (hA0.grown hG (by simp))
  go_upto_region 6 with (first
    | (go_at_call 28; refine hdW.mono ?_; rintro e w1 ⟨hG1, b, cap, rfl, hSE⟩; have hZ1 := (hZ.grown hG1 (by simp)).alloc (.cells #[.int .i64 3, .int .i64 0, .string ⟨#[]⟩, .slice (some ⟨b, 0, none⟩) 7 cap] 51)))
  have hSD : SD b w1.heap.size cap n0 n1 n2 n3 s n5 n6 (w1.alloc (.cells #[.int .i64 3, .int .i64 0, .string ⟨#[]⟩, .slice (some ⟨b, 0, none⟩) 7 cap] 51)) := ⟨hSE.grown ((Gr.refl _ none).alloc _) (by simp), Blk.new w1 _ [_, _, _, _]⟩
  have hG2 := (hG.trans hG1).alloc (.cells #[.int .i64 3, .int .i64 0, .string ⟨#[]⟩, .slice (some ⟨b, 0, none⟩) 7 cap] 51)
  change Code.wp _ _ _ _ (w1.alloc (.cells #[.int .i64 3, .int .i64 0, .string ⟨#[]⟩, .slice (some ⟨b, 0, none⟩) 7 cap] 51))
  have hVlt : w1.heap.size < (w1.alloc (.cells #[.int .i64 3, .int .i64 0, .string ⟨#[]⟩, .slice (some ⟨b, 0, none⟩) 7 cap] 51)).heap.size := by rw [World.size_alloc]; omega
  generalize (w1.alloc (.cells #[.int .i64 3, .int .i64 0, .string ⟨#[]⟩, .slice (some ⟨b, 0, none⟩) 7 cap] 51)) = W2 at *
  generalize w1.heap.size = V at *
  refine wp_region_held_drew (S := fun w' => w'.cell? ⟨V, 3, none⟩ = some (.slice (some ⟨b, 0, none⟩) 7 cap) ∧ w'.cell? ⟨b, 1, none⟩ = some (.int .i64 n0) ∧ w'.cell? ⟨b, 5, none⟩ = some (.int .i64 n1) ∧ w'.cell? ⟨b, 9, none⟩ = some (.int .i64 n2) ∧ w'.cell? ⟨b, 13, none⟩ = some (.int .i64 n3) ∧ w'.cell? ⟨b, 18, none⟩ = some (.string ⟨s.toArray⟩) ∧ w'.cell? ⟨b, 21, none⟩ = some (.int .i64 n5) ∧ w'.cell? ⟨b, 25, none⟩ = some (.int .i64 n6) ∧ SD b V cap n0 n1 n2 n3 s n5 n6 w') (by kernel_rfl) hSD.drew.all (fun hS => ?_)
  refine wpAnyH_take (i := 0) (oi := { dst := some 22, op := _, type := _, pos := _, after := _, guard := none }) (v := ?v0) rfl (by kernel_rfl) (by kernel_rfl) (by kernel_rfl) (fun _ _ _ h => h) (Or.inl ⟨by rfl, ?h0⟩) hS ?r0
  case h0 => intro w0 hw0; obtain ⟨s0, s1, s2, s3, s4, s5, s6, s7, _⟩ := hw0; go_simp; try with_reducible rfl
  simp only [Act.put, List.setIfInBounds_toArray, List.set_cons_zero, List.set_cons_succ]
  refine wpAnyH_take (i := 1) (oi := { dst := some 23, op := _, type := _, pos := _, after := _, guard := none }) (v := ?v1) rfl (by kernel_rfl) (by kernel_rfl) (by kernel_rfl) (fun _ _ _ h => h) (Or.inl ⟨by rfl, ?h1⟩) hS ?r1
  case h1 => intro w0 hw0; obtain ⟨s0, s1, s2, s3, s4, s5, s6, s7, _⟩ := hw0; go_simp; try with_reducible rfl
  simp only [Act.put, List.setIfInBounds_toArray, List.set_cons_zero, List.set_cons_succ]
  refine wpAnyH_take (i := 2) (oi := { dst := some 24, op := _, type := _, pos := _, after := _, guard := none }) (v := ?v2) rfl (by kernel_rfl) (by kernel_rfl) (by kernel_rfl) (fun _ _ _ h => h) (Or.inl ⟨by rfl, ?h2⟩) hS ?r2
  case h2 => intro w0 hw0; obtain ⟨s0, s1, s2, s3, s4, s5, s6, s7, _⟩ := hw0; go_simp; try with_reducible rfl
  simp only [Act.put, List.setIfInBounds_toArray, List.set_cons_zero, List.set_cons_succ]
  refine wpAnyH_take (i := 3) (oi := { dst := some 25, op := _, type := _, pos := _, after := _, guard := none }) (v := ?v3) rfl (by kernel_rfl) (by kernel_rfl) (by kernel_rfl) (fun _ _ _ h => h) (Or.inl ⟨by rfl, ?h3⟩) hS ?r3
  case h3 => intro w0 hw0; obtain ⟨s0, s1, s2, s3, s4, s5, s6, s7, _⟩ := hw0; go_simp; try with_reducible rfl
  simp only [Act.put, List.setIfInBounds_toArray, List.set_cons_zero, List.set_cons_succ]
  refine wpAnyH_take (i := 4) (oi := { dst := some 26, op := _, type := _, pos := _, after := _, guard := none }) (v := ?v4) rfl (by kernel_rfl) (by kernel_rfl) (by kernel_rfl) (fun _ _ _ h => h) (Or.inl ⟨by rfl, ?h4⟩) hS ?r4
  case h4 => intro w0 hw0; obtain ⟨s0, s1, s2, s3, s4, s5, s6, s7, _⟩ := hw0; go_simp; try with_reducible rfl
  simp only [Act.put, List.setIfInBounds_toArray, List.set_cons_zero, List.set_cons_succ]
  refine wpAnyH_take (i := 5) (oi := { dst := some 27, op := _, type := _, pos := _, after := _, guard := none }) (v := ?v5) rfl (by kernel_rfl) (by kernel_rfl) (by kernel_rfl) (fun _ _ _ h => h) (Or.inl ⟨by rfl, ?h5⟩) hS ?r5
  case h5 => intro w0 hw0; obtain ⟨s0, s1, s2, s3, s4, s5, s6, s7, _⟩ := hw0; go_simp; try with_reducible rfl
  simp only [Act.put, List.setIfInBounds_toArray, List.set_cons_zero, List.set_cons_succ]
  refine wpAnyH_take (i := 6) (oi := { dst := some 28, op := _, type := _, pos := _, after := _, guard := none }) (v := ?v6) rfl (by kernel_rfl) (by kernel_rfl) (by kernel_rfl) (fun _ _ _ h => h) (Or.inl ⟨by rfl, ?h6⟩) hS ?r6
  case h6 => intro w0 hw0; obtain ⟨s0, s1, s2, s3, s4, s5, s6, s7, _⟩ := hw0; go_simp; try with_reducible rfl
  simp only [Act.put, List.setIfInBounds_toArray, List.set_cons_zero, List.set_cons_succ]
  refine wpAnyH_take (i := 7) (oi := { dst := some 29, op := _, type := _, pos := _, after := _, guard := none }) (v := ?v7) rfl (by kernel_rfl) (by kernel_rfl) (by kernel_rfl) (fun _ _ _ h => h) (Or.inl ⟨by rfl, ?h7⟩) hS ?r7
  case h7 => intro w0 hw0; obtain ⟨s0, s1, s2, s3, s4, s5, s6, s7, _⟩ := hw0; go_simp; try with_reducible rfl
  simp only [Act.put, List.setIfInBounds_toArray, List.set_cons_zero, List.set_cons_succ]
  refine wpAnyH_take (i := 8) (oi := { dst := some 30, op := _, type := _, pos := _, after := _, guard := none }) (v := ?v8) rfl (by kernel_rfl) (by kernel_rfl) (by kernel_rfl) (fun _ _ _ h => h) (Or.inl ⟨by rfl, ?h8⟩) hS ?r8
  case h8 => intro w0 hw0; obtain ⟨s0, s1, s2, s3, s4, s5, s6, s7, _⟩ := hw0; go_simp; try with_reducible rfl
  simp only [Act.put, List.setIfInBounds_toArray, List.set_cons_zero, List.set_cons_succ]
  refine wpAnyH_take (i := 9) (oi := { dst := some 31, op := _, type := _, pos := _, after := _, guard := none }) (v := ?v9) rfl (by kernel_rfl) (by kernel_rfl) (by kernel_rfl) (fun _ _ _ h => h) (Or.inl ⟨by rfl, ?h9⟩) hS ?r9
  case h9 => intro w0 hw0; obtain ⟨s0, s1, s2, s3, s4, s5, s6, s7, _⟩ := hw0; go_simp; try with_reducible rfl
  simp only [Act.put, List.setIfInBounds_toArray, List.set_cons_zero, List.set_cons_succ]
  refine wpAnyH_take (i := 10) (oi := { dst := some 32, op := _, type := _, pos := _, after := _, guard := none }) (v := ?v10) rfl (by kernel_rfl) (by kernel_rfl) (by kernel_rfl) (fun _ _ _ h => h) (Or.inl ⟨by rfl, ?h10⟩) hS ?r10
  case h10 => intro w0 hw0; obtain ⟨s0, s1, s2, s3, s4, s5, s6, s7, _⟩ := hw0; go_simp; try with_reducible rfl
  simp only [Act.put, List.setIfInBounds_toArray, List.set_cons_zero, List.set_cons_succ]
  refine wpAnyH_take (i := 11) (oi := { dst := some 33, op := _, type := _, pos := _, after := _, guard := none }) (v := ?v11) rfl (by kernel_rfl) (by kernel_rfl) (by kernel_rfl) (fun _ _ _ h => h) (Or.inl ⟨by rfl, ?h11⟩) hS ?r11
  case h11 => intro w0 hw0; obtain ⟨s0, s1, s2, s3, s4, s5, s6, s7, _⟩ := hw0; go_simp; try with_reducible rfl
  simp only [Act.put, List.setIfInBounds_toArray, List.set_cons_zero, List.set_cons_succ]
  refine wpAnyH_take (i := 12) (oi := { dst := some 34, op := _, type := _, pos := _, after := _, guard := none }) (v := ?v12) rfl (by kernel_rfl) (by kernel_rfl) (by kernel_rfl) (fun _ _ _ h => h) (Or.inl ⟨by rfl, ?h12⟩) hS ?r12
  case h12 => intro w0 hw0; obtain ⟨s0, s1, s2, s3, s4, s5, s6, s7, _⟩ := hw0; go_simp; try with_reducible rfl
  simp only [Act.put, List.setIfInBounds_toArray, List.set_cons_zero, List.set_cons_succ]
  refine wpAnyH_take (i := 13) (oi := { dst := some 35, op := _, type := _, pos := _, after := _, guard := none }) (v := ?v13) rfl (by kernel_rfl) (by kernel_rfl) (by kernel_rfl) (fun _ _ _ h => h) (Or.inl ⟨by rfl, ?h13⟩) hS ?r13
  case h13 => intro w0 hw0; obtain ⟨s0, s1, s2, s3, s4, s5, s6, s7, _⟩ := hw0; go_simp; try with_reducible rfl
  simp only [Act.put, List.setIfInBounds_toArray, List.set_cons_zero, List.set_cons_succ]
  refine wpAnyH_take (i := 14) (oi := { dst := some 36, op := _, type := _, pos := _, after := _, guard := none }) (v := ?v14) rfl (by kernel_rfl) (by kernel_rfl) (by kernel_rfl) (fun _ _ _ h => h) (Or.inl ⟨by rfl, ?h14⟩) hS ?r14
  case h14 => intro w0 hw0; obtain ⟨s0, s1, s2, s3, s4, s5, s6, s7, _⟩ := hw0; go_simp; try with_reducible rfl
  simp only [Act.put, List.setIfInBounds_toArray, List.set_cons_zero, List.set_cons_succ]
  refine wpAnyH_take (i := 15) (oi := { dst := some 37, op := _, type := _, pos := _, after := _, guard := none }) (v := ?v15) rfl (by kernel_rfl) (by kernel_rfl) (by kernel_rfl) (fun _ _ _ h => h) (Or.inl ⟨by rfl, ?h15⟩) hS ?r15
  case h15 => intro w0 hw0; obtain ⟨s0, s1, s2, s3, s4, s5, s6, s7, _⟩ := hw0; go_simp; try with_reducible rfl
  simp only [Act.put, List.setIfInBounds_toArray, List.set_cons_zero, List.set_cons_succ]
  refine wpAnyH_take (i := 16) (oi := { dst := some 38, op := _, type := _, pos := _, after := _, guard := none }) (v := ?v16) rfl (by kernel_rfl) (by kernel_rfl) (by kernel_rfl) (fun _ _ _ h => h) (Or.inl ⟨by rfl, ?h16⟩) hS ?r16
  case h16 => intro w0 hw0; obtain ⟨s0, s1, s2, s3, s4, s5, s6, s7, _⟩ := hw0; go_simp; try with_reducible rfl
  simp only [Act.put, List.setIfInBounds_toArray, List.set_cons_zero, List.set_cons_succ]
  refine wpAnyH_take (i := 17) (oi := { dst := some 39, op := _, type := _, pos := _, after := _, guard := none }) (v := ?v17) rfl (by kernel_rfl) (by kernel_rfl) (by kernel_rfl) (fun _ _ _ h => h) (Or.inl ⟨by rfl, ?h17⟩) hS ?r17
  case h17 => intro w0 hw0; obtain ⟨s0, s1, s2, s3, s4, s5, s6, s7, _⟩ := hw0; go_simp; try with_reducible rfl
  simp only [Act.put, List.setIfInBounds_toArray, List.set_cons_zero, List.set_cons_succ]
  refine wpAnyH_take (i := 18) (oi := { dst := some 40, op := _, type := _, pos := _, after := _, guard := none }) (v := ?v18) rfl (by kernel_rfl) (by kernel_rfl) (by kernel_rfl) (fun _ _ _ h => h) (Or.inl ⟨by rfl, ?h18⟩) hS ?r18
  case h18 => intro w0 hw0; obtain ⟨s0, s1, s2, s3, s4, s5, s6, s7, _⟩ := hw0; go_simp; try with_reducible rfl
  simp only [Act.put, List.setIfInBounds_toArray, List.set_cons_zero, List.set_cons_succ]
  refine wpAnyH_take (i := 19) (oi := { dst := some 41, op := _, type := _, pos := _, after := _, guard := none }) (v := ?v19) rfl (by kernel_rfl) (by kernel_rfl) (by kernel_rfl) (fun _ _ _ h => h) (Or.inl ⟨by rfl, ?h19⟩) hS ?r19
  case h19 => intro w0 hw0; obtain ⟨s0, s1, s2, s3, s4, s5, s6, s7, _⟩ := hw0; go_simp; try with_reducible rfl
  simp only [Act.put, List.setIfInBounds_toArray, List.set_cons_zero, List.set_cons_succ]
  refine wpAnyH_take (i := 20) (oi := { dst := some 42, op := _, type := _, pos := _, after := _, guard := none }) (v := ?v20) rfl (by kernel_rfl) (by kernel_rfl) (by kernel_rfl) (fun _ _ _ h => h) (Or.inl ⟨by rfl, ?h20⟩) hS ?r20
  case h20 => intro w0 hw0; obtain ⟨s0, s1, s2, s3, s4, s5, s6, s7, _⟩ := hw0; go_simp; try with_reducible rfl
  simp only [Act.put, List.setIfInBounds_toArray, List.set_cons_zero, List.set_cons_succ]
  refine wpAnyH_take (i := 21) (oi := { dst := some 43, op := _, type := _, pos := _, after := _, guard := none }) (v := ?v21) rfl (by kernel_rfl) (by kernel_rfl) (by kernel_rfl) (fun _ _ _ h => h) (Or.inl ⟨by rfl, ?h21⟩) hS ?r21
  case h21 => intro w0 hw0; obtain ⟨s0, s1, s2, s3, s4, s5, s6, s7, _⟩ := hw0; go_simp; try with_reducible rfl
  simp only [Act.put, List.setIfInBounds_toArray, List.set_cons_zero, List.set_cons_succ]
  refine wpAnyH_take (i := 22) (oi := { dst := some 44, op := _, type := _, pos := _, after := _, guard := none }) (v := ?v22) rfl (by kernel_rfl) (by kernel_rfl) (by kernel_rfl) (fun _ _ _ h => h) (Or.inl ⟨by rfl, ?h22⟩) hS ?r22
  case h22 => intro w0 hw0; obtain ⟨s0, s1, s2, s3, s4, s5, s6, s7, _⟩ := hw0; go_simp; try with_reducible rfl
  simp only [Act.put, List.setIfInBounds_toArray, List.set_cons_zero, List.set_cons_succ]
  refine wpAnyH_take (i := 23) (oi := { dst := some 45, op := _, type := _, pos := _, after := _, guard := none }) (v := ?v23) rfl (by kernel_rfl) (by kernel_rfl) (by kernel_rfl) (fun _ _ _ h => h) (Or.inl ⟨by rfl, ?h23⟩) hS ?r23
  case h23 => intro w0 hw0; obtain ⟨s0, s1, s2, s3, s4, s5, s6, s7, _⟩ := hw0; go_simp; try with_reducible rfl
  simp only [Act.put, List.setIfInBounds_toArray, List.set_cons_zero, List.set_cons_succ]
  refine wpAnyH_take (i := 24) (oi := { dst := some 46, op := _, type := _, pos := _, after := _, guard := none }) (v := ?v24) rfl (by kernel_rfl) (by kernel_rfl) (by kernel_rfl) (fun _ _ _ h => h) (Or.inl ⟨by rfl, ?h24⟩) hS ?r24
  case h24 => intro w0 hw0; obtain ⟨s0, s1, s2, s3, s4, s5, s6, s7, _⟩ := hw0; go_simp; try with_reducible rfl
  simp only [Act.put, List.setIfInBounds_toArray, List.set_cons_zero, List.set_cons_succ]
  refine wpAnyH_take (i := 25) (oi := { dst := some 47, op := _, type := _, pos := _, after := _, guard := none }) (v := ?v25) rfl (by kernel_rfl) (by kernel_rfl) (by kernel_rfl) (fun _ _ _ h => h) (Or.inl ⟨by rfl, ?h25⟩) hS ?r25
  case h25 => intro w0 hw0; obtain ⟨s0, s1, s2, s3, s4, s5, s6, s7, _⟩ := hw0; go_simp; try with_reducible rfl
  simp only [Act.put, List.setIfInBounds_toArray, List.set_cons_zero, List.set_cons_succ]
  refine wpAnyH_take (i := 26) (oi := { dst := some 48, op := _, type := _, pos := _, after := _, guard := none }) (v := ?v26) rfl (by kernel_rfl) (by kernel_rfl) (by kernel_rfl) (fun _ _ _ h => h) (Or.inl ⟨by rfl, ?h26⟩) hS ?r26
  case h26 => intro w0 hw0; obtain ⟨s0, s1, s2, s3, s4, s5, s6, s7, _⟩ := hw0; go_simp; try with_reducible rfl
  simp only [Act.put, List.setIfInBounds_toArray, List.set_cons_zero, List.set_cons_succ]
  refine wpAnyH_take (i := 27) (oi := { dst := some 49, op := _, type := _, pos := _, after := _, guard := none }) (v := ?v27) rfl (by kernel_rfl) (by kernel_rfl) (by kernel_rfl) (fun _ _ _ h => h) (Or.inl ⟨by rfl, ?h27⟩) hS ?r27
  case h27 => intro w0 hw0; obtain ⟨s0, s1, s2, s3, s4, s5, s6, s7, _⟩ := hw0; go_simp; try with_reducible rfl
  simp only [Act.put, List.setIfInBounds_toArray, List.set_cons_zero, List.set_cons_succ]
  refine wpAnyH_take (i := 28) (oi := { dst := some 50, op := _, type := _, pos := _, after := _, guard := none }) (v := ?v28) rfl (by kernel_rfl) (by kernel_rfl) (by kernel_rfl) (fun _ _ _ h => h) (Or.inl ⟨by rfl, ?h28⟩) hS ?r28
  case h28 => intro w0 hw0; obtain ⟨s0, s1, s2, s3, s4, s5, s6, s7, _⟩ := hw0; go_simp; try with_reducible rfl
  simp only [Act.put, List.setIfInBounds_toArray, List.set_cons_zero, List.set_cons_succ]
  refine wpAnyH_take (i := 29) (oi := { dst := some 51, op := _, type := _, pos := _, after := _, guard := none }) (v := ?v29) rfl (by kernel_rfl) (by kernel_rfl) (by kernel_rfl) (fun _ _ _ h => h) (Or.inl ⟨by rfl, ?h29⟩) hS ?r29
  case h29 => intro w0 hw0; obtain ⟨s0, s1, s2, s3, s4, s5, s6, s7, _⟩ := hw0; go_simp; try with_reducible rfl
  simp only [Act.put, List.setIfInBounds_toArray, List.set_cons_zero, List.set_cons_succ]
  refine wpAnyH_take (i := 30) (oi := { dst := some 52, op := _, type := _, pos := _, after := _, guard := none }) (v := ?v30) rfl (by kernel_rfl) (by kernel_rfl) (by kernel_rfl) (fun _ _ _ h => h) (Or.inl ⟨by rfl, ?h30⟩) hS ?r30
  case h30 => intro w0 hw0; obtain ⟨s0, s1, s2, s3, s4, s5, s6, s7, _⟩ := hw0; go_simp; try with_reducible rfl
  simp only [Act.put, List.setIfInBounds_toArray, List.set_cons_zero, List.set_cons_succ]
  refine wpAnyH_take (i := 31) (oi := { dst := some 53, op := _, type := _, pos := _, after := _, guard := none }) (v := ?v31) rfl (by kernel_rfl) (by kernel_rfl) (by kernel_rfl) (fun _ _ _ h => h) (Or.inl ⟨by rfl, ?h31⟩) hS ?r31
  case h31 => intro w0 hw0; obtain ⟨s0, s1, s2, s3, s4, s5, s6, s7, _⟩ := hw0; go_simp; try with_reducible rfl
  simp only [Act.put, List.setIfInBounds_toArray, List.set_cons_zero, List.set_cons_succ]
  refine wpAnyH_ready (rs := [32]) (by kernel_rfl) (by simp) ?_
  refine AllReadyH.cons (o := { dst := some 5, op := _, type := _, pos := _, after := _, guard := none }) rfl (fun K hK => ?_) AllReadyH.nil
  go_simp
  refine hK.out _ _ (hSD.drew.alloc _).all (fun hS2 => ?_)
  clear hK K
  refine wpAnyH_ready (rs := [33]) (by kernel_rfl) (by simp) ?_
  refine AllReadyH.cons (o := { dst := none, op := _, type := _, pos := _, after := _, guard := none }) rfl (fun K hK => ?_) AllReadyH.nil
  rw [if_pos (by rfl)]
  have hx0 : (Ack.mk n0 n1 n2 n3 (List.replicate 32 0) n5 n6).ch.length = 32 := rfl
  refine wp_store_row 27 _ _ rfl W2.drew.heap.size (Ack.mk n0 n1 n2 n3 (List.replicate 32 0) n5 n6).cells.toArray (by rfl) (by rfl) _ _ (heap_alloc_new _ _) (by rw [List.size_toArray, Ack.cells_length _ hx0]; kernel_rfl) (by rfl) (by rw [List.all_toArray, List.all_eq_true]; exact Ack.cells_one _) ?_
  rw [show W2.drew.heap.size = W2.heap.size from rfl, setRow_new_drew]
  refine hK.out _ _ (hSD.alloc _).drew.all (fun hS3 => ?_)
  clear hK K
  refine wpAnyH_done (by kernel_rfl) ?_ _
  have hX := (Blk.new W2 27 (Ack.mk n0 n1 n2 n3 (List.replicate 32 0) n5 n6).cells).drew
  have hSD3 := (hSD.alloc (.cells (Ack.mk n0 n1 n2 n3 (List.replicate 32 0) n5 n6).cells.toArray 27)).drew
  have hZ3 := (hZ1.alloc (.cells (Ack.mk n0 n1 n2 n3 (List.replicate 32 0) n5 n6).cells.toArray 27)).drew
  have hG3 := (hG2.alloc (.cells (Ack.mk n0 n1 n2 n3 (List.replicate 32 0) n5 n6).cells.toArray 27)).drew
  have hblt := hSD.se.lt
  have hZlt := hZ1.lt
  have hGX := hG2.size
  clear hS hS2 hS3 hSD hZ1
  generalize (W2.alloc (.cells (Ack.mk n0 n1 n2 n3 (List.replicate 32 0) n5 n6).cells.toArray 27)).drew = W3 at *
  generalize W2.heap.size = X at *
  go_upto_region 7 with fail
  have hV7 := hSD3.val.cell? 3
  have hb7 := hSD3.se.c4
  go_region_law ((refine step_copy_text (by rfl) _ _ (by rfl) X 4 32 32 27 (Ack.mk n0 n1 n2 n3 (List.replicate 32 0) n5 n6).cells s _ (by rfl) (by rfl) (by exact hX) (by rw [Ack.cells_length _ hx0]; omega) ?_; intro v8 W4 hX4 hG4))
  all_goals
    rw [splice_ch] at hX4
    obtain ⟨x, hxe⟩ : ∃ x, x = Ack.mk n0 n1 n2 n3 (chOf s) n5 n6 := ⟨_, rfl⟩
    have hxc : x.ch.length = 32 := by rw [hxe]; exact chOf_length s
    rw [← hxe] at hX4 hi
    have HXE := Lib.hid hxe
    clear hxe
    have hin1 : ((Tryd.prog).info? 27).map (·.size) = some x.cells.length := by rw [Ack.cells_length _ hxc]; kernel_rfl
    have hG34 := hG3.drew.on hG4 (by intro b hb; cases hb; exact .inl hGX)
    have hZ4 := hZ3.drew.grown hG4 (by simp; omega)
    have hE := ackEncode_any x W4 hxc hi
    cases hf : x.formed with
    | false =>
      have hV : adecV x l = .tuple #[.agg zeroAck.cells.toArray, .int .i64 330] := by unfold adecV; rw [hf]; rfl
      go_wp2_with (first
        | (refine wl_load_blk rfl 27 _ rfl X x.cells _ _ hX4 rfl Tryd.underlying27 rfl hin1 ?_)
        | (go_at_call 9; refine hE.mono ?_; rintro e w5 hep; obtain ⟨hG5, rfl⟩ := hep.no hf; have hZ5 := hZ4.grown hG5 (by simp))
        | (refine wl_load_blk rfl 27 _ rfl w.heap.size zeroAck.cells _ _ hZ5 rfl Tryd.underlying27 rfl hin0 ?_)
        | (refine wl_store_blk rfl 27 _ _ rfl w.heap.size zeroAck.cells zeroAck.cells _ hZ5 rfl rfl hin0 rfl (Ack.cells_one _) ?_; intro w7 hZ7 hG7))
      refine bodyPost_ret (results_adec w7 w.heap.size _ zeroAck hz 330 rfl rfl hZ7) rfl ?_
      rw [← HXE.out, hV]
      exact ⟨rfl, (hG34.trans hG5).on hG7 (by intro b hb; cases hb; omega)⟩
    | true =>
      have hsz4 := hG34.size
      have hA4 := hA0.grown hG34 (by simp)
      by_cases hq : x.enc = l
      · have hV : adecV x l = .tuple #[.agg x.cells.toArray, .int .i64 0] := by unfold adecV; rw [if_pos ⟨hf, hq⟩]
        have hbq : ((ByteArray.mk l.toArray).toList == (ByteArray.mk x.enc.toArray).toList) = true := by rw [bytes_eq, hq]; simp
        clear hq
        go_wp2_with (first
          | (refine wl_load_blk rfl 27 _ rfl X x.cells _ _ hX4 rfl Tryd.underlying27 rfl hin1 ?_)
          | (go_at_call 9; refine hE.mono ?_; rintro e w5 hep; obtain ⟨hG5, v5, rfl, hown5, hne5⟩ := hep.yes hf; have hZ5 := hZ4.grown hG5 (by simp); have hX5 := hX4.grown hG5 (by simp); have hcv0 := conv_bytes w5 b0 o0 cap0 l (hA4.grown hG5 (by simp)); obtain ⟨b5, o5, cap5, rfl, _, _, _, hA5⟩ := (hown5.bytes hne5).ex; have hcv5 := conv_bytes w5 b5 o5 cap5 x.enc hA5)
          | (go_at_call 29; refine (Tryd.bytes_Equal_strs _ _ _ _ _ hcv0 hcv5).mono ?_; rintro e w6 ⟨rfl, rfl⟩; rw [hbq])
          | (refine wl_load_blk rfl 27 _ rfl X x.cells _ _ hX5 rfl Tryd.underlying27 rfl hin1 ?_)
          | (refine wl_store_blk rfl 27 _ _ rfl w.heap.size x.cells zeroAck.cells _ hZ5 rfl rfl hin1 (by rw [Ack.cells_length _ hz, Ack.cells_length _ hxc]) (Ack.cells_one _) ?_; intro w7 hZ7 hG7))
        refine bodyPost_ret (results_adec w7 w.heap.size _ x hxc 0 rfl rfl hZ7) rfl ?_
        rw [← HXE.out, hV]
        exact ⟨rfl, (hG34.trans hG5).on hG7 (by intro b hb; cases hb; omega)⟩
      · have hV : adecV x l = .tuple #[.agg zeroAck.cells.toArray, .int .i64 330] := by unfold adecV; rw [if_neg (fun h => hq h.2)]
        have hbq : ((ByteArray.mk l.toArray).toList == (ByteArray.mk x.enc.toArray).toList) = false := by rw [bytes_eq]; simp; exact fun h => hq h.symm
        go_wp2_with (first
          | (refine wl_load_blk rfl 27 _ rfl X x.cells _ _ hX4 rfl Tryd.underlying27 rfl hin1 ?_)
          | (go_at_call 9; refine hE.mono ?_; rintro e w5 hep; obtain ⟨hG5, v5, rfl, hown5, hne5⟩ := hep.yes hf; have hZ5 := hZ4.grown hG5 (by simp); have hcv0 := conv_bytes w5 b0 o0 cap0 l (hA4.grown hG5 (by simp)); obtain ⟨b5, o5, cap5, rfl, _, _, _, hA5⟩ := (hown5.bytes hne5).ex; have hcv5 := conv_bytes w5 b5 o5 cap5 x.enc hA5)
          | (go_at_call 29; refine (Tryd.bytes_Equal_strs _ _ _ _ _ hcv0 hcv5).mono ?_; rintro e w6 ⟨rfl, rfl⟩; rw [hbq])
          | (refine wl_load_blk rfl 27 _ rfl w.heap.size zeroAck.cells _ _ hZ5 rfl Tryd.underlying27 rfl hin0 ?_)
          | (refine wl_store_blk rfl 27 _ _ rfl w.heap.size zeroAck.cells zeroAck.cells _ hZ5 rfl rfl hin0 rfl (Ack.cells_one _) ?_; intro w7 hZ7 hG7))
        refine bodyPost_ret (results_adec w7 w.heap.size _ zeroAck hz 330 rfl rfl hZ7) rfl ?_
        rw [← HXE.out, hV]
        exact ⟨rfl, (hG34.trans hG5).on hG7 (by intro b hb; cases hb; omega)⟩
end Go.Proofs.YtjibmhmaoegcnaaDoor
namespace Go.Proofs.YtjibmhmaoegcnaaDoor
open Go.RowKit Go.Shelf
set_option linter.unusedVariables false
def Tree.fits (t : Tree) : Prop := -9223372036854775808 ≤ t.n ∧ t.n < 9223372036854775808
theorem rep_all {P : Tree → Prop} {f : List UInt8 → Option (Tree × List UInt8)} (h : ∀ l t r, f l = some (t, r) → P t) : ∀ (n : Nat) (l : List UInt8) (ts : List Tree) (r : List UInt8), rep f n l = some (ts, r) → ∀ t ∈ ts, P t
  | 0, l, ts, r, e => by simp [rep] at e; rw [e.1]; simp
  | n + 1, l, ts, r, e => by
    simp only [rep] at e
    cases hf : f l with
    | none => simp [hf] at e
    | some p =>
      obtain ⟨t, l1⟩ := p
      simp only [hf] at e
      cases hr : rep f n l1 with
      | none => simp [hr] at e
      | some p2 =>
        obtain ⟨ts2, r2⟩ := p2
        simp only [hr, Option.some.injEq, Prod.mk.injEq] at e
        have h2 := rep_all h n l1 ts2 r2 hr
        rw [← e.1]
        intro x hx
        rcases List.mem_cons.1 hx with rfl | hx
        · exact h l _ l1 hf
        · exact h2 x hx
theorem valD_fits (d : Nat) (l : List UInt8) (t : Tree) (r : List UInt8) (h : valD d l = some (t, r)) : t.fits := by
  have z : ∀ u : Tree, u.n = 0 → u.fits := fun u hu => by unfold Tree.fits; rw [hu]; omega
  cases l with
  | nil => cases d <;> simp [valD] at h
  | cons c l =>
    rw [valD_cons] at h
    split at h
    · cases hn : numD 0 l with
      | none => simp [hn] at h
      | some p =>
        obtain ⟨u, s⟩ := p
        simp only [hn, Option.some.injEq, Prod.mk.injEq] at h
        rw [← h.1]
        exact zag_lo u (numD_lt0 hn)
    · split at h
      · cases hn : lenD l with
        | none => simp [hn] at h
        | some p => simp only [hn, Option.some.injEq, Prod.mk.injEq] at h; rw [← h.1]; exact z _ rfl
      · split at h
        · cases d with
          | zero => simp at h
          | succ d =>
            cases hn : lenD l with
            | none => simp [hn] at h
            | some p =>
              simp only [hn] at h
              cases hr : rep (valD d) p.1 p.2 with
              | none => simp [hr] at h
              | some p2 => simp only [hr, Option.some.injEq, Prod.mk.injEq] at h; rw [← h.1]; exact z _ rfl
        · simp at h
theorem valD_list_fits (d : Nat) (l : List UInt8) (ts : List Tree) (r : List UInt8) (h : valD d l = some (.list ts, r)) : ∀ t ∈ ts, t.fits := by
  cases l with
  | nil => cases d <;> simp [valD] at h
  | cons c l =>
    rw [valD_cons] at h
    split at h
    · cases hn : numD 0 l <;> simp [hn] at h
    · split at h
      · cases hn : lenD l <;> simp [hn] at h
      · split at h
        · cases d with
          | zero => simp at h
          | succ d =>
            cases hn : lenD l with
            | none => simp [hn] at h
            | some p =>
              simp only [hn] at h
              cases hr : rep (valD d) p.1 p.2 with
              | none => simp [hr] at h
              | some p2 =>
                obtain ⟨ts2, r2⟩ := p2
                simp only [hr, Option.some.injEq, Prod.mk.injEq, Tree.list.injEq] at h
                rw [← h.1]
                exact rep_all (fun l t r => valD_fits d l t r) _ _ _ _ hr
        · simp at h
theorem decD_fits {l : List UInt8} {ts : List Tree} (h : decD l = some (.list ts)) : ∀ t ∈ ts, t.fits := by
  unfold decD at h
  split at h
  · rename_i t e
    simp only [Option.some.injEq] at h
    subst h
    exact valD_list_fits 16 l ts [] e
  · simp at h
theorem getD_fits {ts : List Tree} (h : ∀ t ∈ ts, t.fits) (i : Nat) : (ts.getD i (.list [])).fits := by
  rw [List.getD_eq_getElem?_getD]
  cases e : ts[i]? with
  | none => exact ⟨by decide, by decide⟩
  | some t => exact h t (List.mem_of_getElem? e)
theorem ackOf_ints {ts : List Tree} (h : ∀ t ∈ ts, t.fits) : (ackOf ts).ints := ⟨getD_fits h 0, getD_fits h 1, getD_fits h 2, getD_fits h 3, getD_fits h 5, getD_fits h 6⟩
/-- The seven parts, where the tree lies. -/
theorem TV.seven {w : World} {A : Nat → Prop} {ts : List Tree} {cs : List Value} (k : TV w A (.list ts) cs) (h7 : ts.length = 7) :
    ∃ b cap, cs = [.int .i64 3, .int .i64 0, .string ⟨#[]⟩, .slice (some ⟨b, 0, none⟩) 7 cap] ∧ SE b (ackOf ts).f (ackOf ts).d (ackOf ts).s (ackOf ts).u (ts.getD 4 (.list [])).s (ackOf ts).r (ackOf ts).g w := by
  cases k with
  | nil => simp at h7
  | list ts css b cap hl hb ha hA hcs =>
    refine ⟨b, cap, by rw [h7], ?_⟩
    have h4 : ∀ cs ∈ css, cs.length = 4 := by
      intro cs hcs'
      obtain ⟨i, hi, rfl⟩ := List.getElem_of_mem hcs'
      exact (hcs i (by omega) hi).len
    have cell : ∀ i j (hi : i < 7) (hj : j < 4) (v : Value), (css[i]'(by omega))[j]? = some v → w.cell? ⟨b, i * 4 + j, none⟩ = some v := by
      intro i j hi hj v hv
      have e := flat4 css h4 i j (by omega) hj
      rw [hv] at e
      obtain ⟨hlt, e⟩ := List.getElem?_eq_some_iff.1 e
      have := hA (i * 4 + j) hlt
      rw [Nat.zero_add] at this
      rw [this, e]
    have gd : ∀ i (hi : i < 7), ts.getD i (.list []) = ts[i]'(by omega) := fun i hi => by rw [List.getD_eq_getElem?_getD, List.getElem?_eq_getElem (by omega)]; rfl
    have n : ∀ i (hi : i < 7), w.cell? ⟨b, i * 4 + 1, none⟩ = some (.int .i64 (ts.getD i (.list [])).n) := fun i hi => by rw [gd i hi]; exact cell i 1 hi (by omega) _ (hcs i (by omega) (by omega)).cell1
    exact ⟨hb, n 0 (by omega), n 1 (by omega), n 2 (by omega), n 3 (by omega), by rw [gd 4 (by omega)]; exact cell 4 2 (by omega) (by omega) _ (hcs 4 (by omega) (by omega)).cell2, n 5 (by omega), n 6 (by omega)⟩
theorem TV.slice7 {w : World} {A : Nat → Prop} {t : Tree} {cs : List Value} (k : TV w A t cs) (p : Option Addr) (m c : Nat) (h : cs[3]? = some (.slice p m c)) (hm : m = 7) : ∃ ts, t = .list ts ∧ ts.length = 7 := by
  cases k with
  | int n => simp at h; omega
  | text s => simp at h; omega
  | nil => simp at h; omega
  | list ts css b cap hl hb ha hA hcs =>
    simp at h
    exact ⟨ts, rfl, by omega⟩
theorem ackDec_any (b0 o0 cap0 : Nat) (l : List UInt8) (w : World) (h1 : l.length ≤ cap0) (h2 : cap0 ≤ maxLen) (hb0 : b0 < w.heap.size) (hA0 : At w b0 o0 (l.map B8)) (hl : l.length ≤ 1000000) :
    Calls Tryd.prog 11 #[.slice (some ⟨b0, o0, none⟩) l.length cap0] w fun e w' => e = .returned (.tuple #[.agg (ackDecV l).1.cells.toArray, .int .i64 (ackDecV l).2]) ∧ Gr w none w' := by
  have hC : ∀ o, (fun w : World => b0 < w.heap.size ∧ At w b0 o0 (l.map B8)) (w.alloc o) := fun o => ⟨by rw [World.size_alloc]; omega, hA0.grown ((Gr.refl w none).alloc o) (by simp)⟩
  have hdec := fun (w : World) (h : b0 < w.heap.size ∧ At w b0 o0 (l.map B8)) => decode_any b0 o0 cap0 l w h1 h2 h.1 h.2 hl
  cases hD : decD l with
  | none =>
    have hV : ackDecV l = (zeroAck, 10) := by unfold ackDecV; rw [hD]
    rw [hV]
    exact ackDec_none _ _ w hC fun w h => (hdec w h).mono fun e w' hp => by unfold DPost at hp; rw [hD] at hp; exact hp
  | some t =>
    by_cases h7 : ∃ ts, t = .list ts ∧ ts.length = 7
    · obtain ⟨ts, rfl, h7⟩ := h7
      have hE : adecV (ackOf ts) l = .tuple #[.agg (ackDecV l).1.cells.toArray, .int .i64 (ackDecV l).2] := by
        unfold adecV ackDecV
        rw [hD]
        simp only [h7, if_true]
        by_cases hc : (ackOf ts).formed = true ∧ (ackOf ts).enc = l
        · rw [if_pos hc, if_pos hc]
        · rw [if_neg hc, if_neg hc]
      rw [← hE]
      refine ackDec_seven b0 o0 cap0 l w _ _ _ _ _ _ (ts.getD 4 (.list [])).s hb0 hA0 (ackOf_ints (decD_fits hD)) ?_
      intro w hb hA
      refine (hdec w ⟨hb, hA⟩).mono fun e w' hp => ?_
      unfold DPost at hp
      rw [hD] at hp
      obtain ⟨hG, k, n, s, p, m, c, rfl, hT⟩ := hp
      obtain ⟨b, cap, hcs, hS⟩ := hT.seven h7
      refine ⟨hG, b, cap, ?_, hS⟩
      simp only [List.cons.injEq, and_true] at hcs
      obtain ⟨e1, e2, e3, e4⟩ := hcs
      rw [e1, e2, e3, e4]
    · have hV : ackDecV l = (zeroAck, 330) := by
        unfold ackDecV
        rw [hD]
        cases t with
        | int n => rfl
        | text s => rfl
        | list ts => simp only; rw [if_neg fun e => h7 ⟨ts, rfl, e⟩]
      rw [hV]
      refine ackDec_short _ _ w hC fun w h => (hdec w h).mono fun e w' hp => ?_
      unfold DPost at hp
      rw [hD] at hp
      obtain ⟨hG, k, n, s, p, m, c, rfl, hT⟩ := hp
      exact ⟨hG, k, n, s, p, m, c, fun hm => h7 (hT.slice7 p m c rfl hm), rfl⟩
theorem ackDec_nil (w : World) : Calls Tryd.prog 11 #[.slice none 0 0] w fun e w' => e = .returned (.tuple #[.agg zeroAck.cells.toArray, .int .i64 10]) ∧ Gr w none w' :=
  ackDec_none (fun _ => True) _ w (fun _ => trivial) fun w _ => decode_nil w
end Go.Proofs.YtjibmhmaoegcnaaDoor
namespace Go.Proofs.YtjibmhmaoegcnaaDoor
set_option linter.unusedVariables false
variable {P : Program} {md : Region.Mode} {ops : Array Oper} {Q : Exit → Act → World → Prop} {S : World → Prop} {L : Nat}
/-- Does operation L wait for operation i? -/
def waits (md : Region.Mode) (ops : Array Oper) (L i : Nat) : Bool :=
  match ops[L]? with
  | some o => o.after.any fun e => Region.binds md e && e.on == i
  | none => true
/-- Whatever order is picked; S holds behind every operation but L. -/
def wpAnyL (P : Program) (md : Region.Mode) (ops : Array Oper) (Q : Exit → Act → World → Prop) (S : World → Prop) (L : Nat) : Nat → Array Bool → Act → World → Prop
  | 0, listed, a, w => Region.ready md ops listed = [] ∧ Q .normal a w
  | n + 1, listed, a, w => (Region.ready md ops listed = [] → Q .normal a w) ∧ ∀ j ∈ Region.ready md ops listed, wpOp P ops Q j (fun a' w' => (j ≠ L → S w') ∧ wpAnyL P md ops Q S L n (listed.setIfInBounds j true) a' w') a w
theorem wpAny_of_last : ∀ (n : Nat) (listed : Array Bool) (a : Act) (w : World), wpAnyL P md ops Q S L n listed a w → wpAny P md ops Q n listed a w
  | 0, _, _, _, h => h
  | n + 1, _, _, _, h => ⟨h.1, fun j hj => wpOp_mono (fun a' w' k => wpAny_of_last n _ a' w' k.2) (h.2 j hj)⟩
theorem wpAnyL_take {i : Nat} {oi : Oper} {v : Value} {n : Nat} {listed : Array Bool} {a : Act} {w : World} (hi : ops[i]? = some oi) (hs : Region.noSelect ops = true) (hf : Region.free md ops listed i = true) (hr : (Region.ready md ops listed).contains i = true)
    (hwt : waits md ops L i = true) (hQ : ∀ c a w, Q (.panic c) (a.put oi.dst v) w → Q (.panic c) a w) (hy : YieldsIf P ops S oi v a) (hS : S w)
    (h : wpAnyL P md ops Q S L n (listed.setIfInBounds i true) (a.put oi.dst v) w) : wpAnyL P md ops Q S L (n + 1) listed a w := by
  have hsel := Region.noSelect_spec hs
  have hfree := Region.free_spec hi hf
  have hready : i ∈ Region.ready md ops listed := by simpa using hr
  clear hs hf hr
  induction n generalizing listed a w with
  | zero =>
    refine ⟨fun e => (by rw [e] at hready; cases hready), fun j hj => ?_⟩
    rcases Nat.decEq j i with hne | rfl
    · have := ready_mono hj hne
      rw [h.1] at this
      cases this
    · exact hy.wpOp hi hS ⟨fun _ => hS, h⟩
  | succ n ih =>
    refine ⟨fun e => (by rw [e] at hready; cases hready), fun j hj => ?_⟩
    rcases Nat.decEq j i with hne | rfl
    · obtain ⟨hun, oj, hoj, hall⟩ := mem_ready.1 hj
      have hnot : ∀ e ∈ oj.after, Region.binds md e = true → e.on ≠ i := by
        intro e he hb heq
        have k1 := hall e he hb
        have k0 := (mem_ready.1 hready).1
        rw [heq] at k1
        by_cases hlt : i < listed.size
        · simp [hlt] at k0 k1; rw [k0] at k1; cases k1
        · simp [Array.getElem?_eq_none (Nat.le_of_not_lt hlt)] at k1
      have hjL : j ≠ L := by
        rintro rfl
        unfold waits at hwt
        rw [hoj] at hwt
        obtain ⟨e, he, hc⟩ := Array.any_eq_true'.1 hwt
        simp only [Bool.and_eq_true, beq_iff_eq] at hc
        exact hnot e he hc.1 hc.2
      have k2 := wpOp_putIf hoj (hfree j oj hoj hne hun hnot) (fun cs b => hsel i oi cs b hi) (fun cs b => hsel j oj cs b hoj) hQ hy (h.2 j (ready_mono hj hne))
      refine wpOp_mono (fun a' w' k => ⟨fun _ => k.2.1 hjL, ?_⟩) k2
      refine ih k.1 (k.2.1 hjL) ?_ ?_ (ready_mono hready (Ne.symm hne))
      · rw [Array.setIfInBounds_comm _ _ hne]
        exact k.2.2
      · intro m om hm hmi hum hno
        refine hfree m om hm hmi ?_ hno
        by_cases hjm : j = m
        · subst hjm; exact hun
        · rw [getD_set_ne true hjm] at hum; exact hum
    · exact hy.wpOp hi hS ⟨fun _ => hS, h⟩
theorem wpAnyL_done {listed : Array Bool} {a : Act} {w : World} (hr : Region.ready md ops listed = []) (h : Q .normal a w) : ∀ n, wpAnyL P md ops Q S L n listed a w
  | 0 => ⟨hr, h⟩
  | _ + 1 => ⟨fun _ => h, by rw [hr]; simp⟩
/-- All that may come up now. -/
def AllReadyL (P : Program) (md : Region.Mode) (ops : Array Oper) (Q : Exit → Act → World → Prop) (S : World → Prop) (L n : Nat) (listed : Array Bool) (a : Act) (w : World) (rs : List Nat) : Prop :=
  ∀ j ∈ rs, wpOp P ops Q j (fun a' w' => (j ≠ L → S w') ∧ wpAnyL P md ops Q S L n (listed.setIfInBounds j true) a' w') a w
theorem AllReadyL.nil {n : Nat} {listed : Array Bool} {a : Act} {w : World} : AllReadyL P md ops Q S L n listed a w [] := fun _ h => by cases h
theorem AllReadyL.cons {n : Nat} {listed : Array Bool} {a : Act} {w : World} {i : Nat} {o : Oper} {rs : List Nat} (ho : ops[i]? = some o)
    (h : ∀ K' : Act → World → Prop, Shut (∀ a w, (i ≠ L → S w) → wpAnyL P md ops Q S L n (listed.setIfInBounds i true) a w → K' a w) → if Region.wanted o (yielded ops a.tmps) = true then Oper.wp P o a w K' Q else K' (a.put o.dst undef) w)
    (hs : AllReadyL P md ops Q S L n listed a w rs) : AllReadyL P md ops Q S L n listed a w (i :: rs) := fun j hj => by
  rcases List.mem_cons.1 hj with rfl | hj
  · exact wpOp_step ho fun K' hK => h K' fun a w h1 h2 => hK a w ⟨h1, h2⟩
  · exact hs j hj
theorem wpAnyL_ready {rs : List Nat} {n : Nat} {listed : Array Bool} {a : Act} {w : World} (hr : Region.ready md ops listed = rs) (hne : rs ≠ []) (h : AllReadyL P md ops Q S L n listed a w rs) : wpAnyL P md ops Q S L (n + 1) listed a w :=
  ⟨fun e => absurd (hr ▸ e) hne, hr ▸ h⟩
theorem wp_region_last {id : Nat} {a : Act} {w : World} (L : Nat) (hm : P.follows .mixedOrders = true) (h : wpAnyL P .any ops Q S L ops.size (Array.replicate ops.size false) a w.drew) : (Code.region id ops true).wp P Q a w :=
  wp_region_any hm (wpAny_of_last _ _ _ _ h)
end Go.Proofs.YtjibmhmaoegcnaaDoor
namespace Go.Proofs.YtjibmhmaoegcnaaDoor
open Go.RowKit Go.Shelf
set_option linter.unusedVariables false
/-- A value is read as itself. -/
def rdHeld (v : Value) : Option (DataW Value × List MemPlace) := some (.held v, [])
def i64ok (k : Int) : Prop := -9223372036854775808 ≤ k ∧ k < 9223372036854775808
/-- Block b is a map of at most n entries; F is what it holds. -/
structure MapIs (w : World) (b n : Nat) (F : Int → Value) : Prop where
  ex : ∃ D : DataW Value, w.ownsMap Tryd.prog 3 rdHeld b n D ∧ Maps.IsMap D ∧ ∀ k, i64ok k → D.atKey (.int .i64 k) (.held (.slice none 0 0)) = .held (F k)
theorem MapIs.made (w : World) : MapIs (w.alloc (.map #[] 0)) w.heap.size 0 (fun _ => .slice none 0 0) :=
  ⟨.map [], World.ownsMap_made w _ _ _, Maps.isMap_empty, fun k _ => rfl⟩
theorem MapIs.kept {w w' : World} {b n : Nat} {F : Int → Value} (h : MapIs w b n F) {row : Option Nat} (hg : Gr w row w') (hne : some b ≠ row) : MapIs w' b n F := by
  obtain ⟨D, h1, h2, h3⟩ := h.ex
  exact ⟨D, h1.kept hg hne, h2, h3⟩
theorem MapIs.lt {w : World} {b n : Nat} {F : Int → Value} (h : MapIs w b n F) : b < w.heap.size := by
  obtain ⟨D, h1, h2, h3⟩ := h.ex
  exact h1.lt
theorem key_i64 {k : Int} (hk : i64ok k) : keyOf Tryd.prog 3 (.int .i64 k) = some (.int .i64 k) :=
  Maps.keyOf_int_mk Tryd.underlying3 (WalkArith.wf_i64 ⟨hk.1, by have := hk.2; omega⟩)
theorem MapIs.look {w : World} {b n : Nat} {F : Int → Value} (h : MapIs w b n F) {k : Int} (hk : i64ok k) : (Instr.lookup 87 (.map (some b)) (.int .i64 k) false).run Tryd.prog w = .ok (F k) w := by
  obtain ⟨D, h1, h2, h3⟩ := h.ex
  obtain ⟨v, ps, hr, hv⟩ := h1.lookup (Maps.int_keyed Tryd.underlying3) Tryd.underlying87 (z := .slice none 0 0) (by kernel_rfl) (zd := .held (.slice none 0 0)) (zp := []) rfl (key_i64 hk)
  rw [h3 k hk] at hv
  unfold rdHeld at hv
  simp only [Option.some.injEq, Prod.mk.injEq, DataW.held.injEq] at hv
  rw [hr, hv.1]
theorem MapIs.put {w : World} {b n : Nat} {F : Int → Value} (h : MapIs w b n F) (hn : n < 1000000) {k : Int} (hk : i64ok k) (v : Value) :
    ∃ w', (Instr.mapUpdate 87 (.map (some b)) (.int .i64 k) v).run Tryd.prog w = .ok () w' ∧ MapIs w' b (n + 1) (fun x => if x = k then v else F x) ∧ Gr w (some b) w' := by
  obtain ⟨D, h1, h2, h3⟩ := h.ex
  obtain ⟨w', hr, h4, h5⟩ := h1.update (Maps.int_keyed Tryd.underlying3) Tryd.underlying87 (by unfold maxLen; omega) (val := v) (d := .held v) (ps := []) (key_i64 hk) rfl
  refine ⟨w', hr, ⟨_, h4, h2.put _ _, fun x hx => ?_⟩, h5⟩
  by_cases e : x = k
  · subst e
    rw [if_pos rfl]
    exact Maps.atKey_put_same h2 (Maps.int_keyed Tryd.underlying3 |>.key (key_i64 hx)) _ _
  · rw [if_neg e, Maps.atKey_put_other (by intro e2; exact e (by simpa using e2)), h3 x hx]
end Go.Proofs.YtjibmhmaoegcnaaDoor
namespace Go.Proofs.YtjibmhmaoegcnaaDoor
open Go.RowKit Go.Shelf
set_option linter.unusedVariables false
theorem info_ack : ∃ i z, (Tryd.prog).info? 27 = some i ∧ i.zero = some z ∧ i.size = 38 ∧ i.bytes = 80 ∧ z.cells.size = 38 := by
  have h : ((Tryd.prog).info? 27).map (fun i => (i.zero, i.size, i.bytes)) = some (some (.agg zeroAck.cells.toArray), 38, 80) := by kernel_rfl
  cases hq : (Tryd.prog).info? 27 with
  | none => simp [hq] at h
  | some i => simp [hq] at h; exact ⟨i, _, rfl, h.1, h.2.1, h.2.2, rfl⟩
/-- A row of acknowledgements that the call owns. -/
abbrev OwnA (w : World) (B : Nat) (v : Value) (g : List Ack) : Prop := w.ownsRow B 27 38 v g.length (g.flatMap Ack.cells)
theorem flat_acks (g : List Ack) (h : ∀ a ∈ g, a.ch.length = 32) : (g.flatMap Ack.cells).length = g.length * 38 := by
  induction g with
  | nil => rfl
  | cons a g ih => rw [List.flatMap_cons, List.length_append, ih fun x hx => h x (by simp [hx]), a.cells_length (h a (by simp)), List.length_cons]; omega
theorem step_ack {ops : Array Oper} {o : Oper} {a : Act} {K : Act → World → Prop} {Q : Exit → Act → World → Prop} {E : Prop} (hgd : o.guard = none) (s x : Operand)
    (ho : o.op = .call { callee := .builtin .append, args := #[s, x], argTypes := #[38, 38] }) (B : Nat) (v : Value) (g : List Ack) (k : Ack) (hk : k.ch.length = 32) (W : World)
    (hs : a.eval s = v) (hown : OwnA W B v g) (hB : B ≤ W.heap.size) (hlen : g.length ≤ 100000) (H : Nat) (hA : At W H 0 k.cells) (hx : a.eval x = .slice (some ⟨H, 0, none⟩) 1 1)
    (h : ∀ b cap w1, OwnA w1 B (.slice (some ⟨b, 0, none⟩) (g.length + 1) cap) (g ++ [k]) → Gr W v.ownBlock w1 → (v.ownBlock = some b ∨ W.heap.size = b) → b < w1.heap.size → K (a.put o.dst (.slice (some ⟨b, 0, none⟩) (g.length + 1) cap)) w1) :
    if Region.wanted o (yielded ops a.tmps) = true then Oper.wp Tryd.prog o a W K Q else E := by
  obtain ⟨i0, z, hi, hz0, hz1, hz2, hz3⟩ := info_ack
  refine step_append_lies _ hgd s x 38 ho B 27 i0 z 38 80 Tryd.underlying38 hi hz0 hz1 hz2 hz3 (by decide) v g.length (g.flatMap Ack.cells) hs hown ⟨H, 0, none⟩ 1 1 k.cells hx (by rw [k.cells_length hk]) ?_ k.cells_one (by decide) (by unfold maxLen; omega) (by omega) hB W.heap.size rfl ?_
  · intro j u hj
    obtain ⟨hl, e⟩ := List.getElem?_eq_some_iff.1 hj
    have := hA j hl
    rw [Addr.add_lit, ← e]
    exact this
  intro b cap w1 hown1 hgrow hat hlt
  refine h b cap w1 ?_ hgrow (hat.imp_right Eq.symm) hlt
  show w1.ownsRow _ _ _ _ _ _
  rw [List.length_append, List.length_singleton, List.flatMap_append, List.flatMap_singleton]
  exact hown1
theorem step_put {ops : Array Oper} {o : Oper} {a : Act} {K : Act → World → Prop} {Q : Exit → Act → World → Prop} {E : Prop} (hgd : o.guard = none) (m x v : Operand) (ho : o.op = .mapUpdate 87 m x v)
    (b n : Nat) (F : Int → Value) (k : Int) (u : Value) (W : World) (hm : a.eval m = .map (some b)) (hx : a.eval x = .int .i64 k) (hv : a.eval v = u) (hM : MapIs W b n F) (hn : n < 1000000) (hk : i64ok k)
    (h : ∀ w1, MapIs w1 b (n + 1) (fun x => if x = k then u else F x) → Gr W (some b) w1 → K (a.put o.dst undef) w1) :
    if Region.wanted o (yielded ops a.tmps) = true then Oper.wp Tryd.prog o a W K Q else E := by
  have hw : Region.wanted o (yielded ops a.tmps) = true := by simp [Region.wanted, hgd]
  rw [if_pos hw]
  obtain ⟨w1, hr, h1, h2⟩ := hM.put hn hk u
  unfold Oper.wp
  simp [execOp, ho, hm, hx, hv, hr, Result.andThen]
  exact h w1 h1 h2
/-- The acknowledgements of a folder and a store, of one device. -/
def grp (fo st : Int) (l : List Ack) (d : Int) : List Ack := l.filter fun a => decide (a.f = fo ∧ a.s = st ∧ a.d = d)
/-- The map by device, when the acknowledgements l have been seen. -/
structure Gp (w : World) (fo st : Int) (l : List Ack) (w' : World) : Prop where
  gr : Gr w none w'
  ex : ∃ n F, n ≤ l.length ∧ MapIs w' w.heap.size n F ∧ (∀ d, i64ok d → OwnA w' (w.heap.size + 1) (F d) (grp fo st l d)) ∧ ∀ d d' b, i64ok d → i64ok d' → (F d).ownBlock = some b → (F d').ownBlock = some b → d = d'
theorem Gp.grown {w w' w'' : World} {fo st : Int} {l : List Ack} (h : Gp w fo st l w') (hg : Gr w' none w'') : Gp w fo st l w'' := by
  obtain ⟨n, F, h1, h2, h3, h4⟩ := h.ex
  exact ⟨h.gr.trans hg, n, F, h1, h2.kept hg (by simp), fun d hd => World.ownsRow.kept (h3 d hd) hg (by cases (F d).ownBlock <;> simp), h4⟩
/-- An acknowledgement of another folder or store. -/
theorem Gp.other {w w' : World} {fo st : Int} {l : List Ack} {a : Ack} (h : Gp w fo st l w') (ha : ¬ (a.f = fo ∧ a.s = st)) : Gp w fo st (l ++ [a]) w' := by
  obtain ⟨n, F, h1, h2, h3, h4⟩ := h.ex
  refine ⟨h.gr, n, F, by rw [List.length_append]; omega, h2, fun d hd => ?_, h4⟩
  have e : grp fo st (l ++ [a]) d = grp fo st l d := by
    unfold grp
    rw [List.filter_append]
    have : [a].filter (fun a => decide (a.f = fo ∧ a.s = st ∧ a.d = d)) = [] := by
      rw [List.filter_cons_of_neg]
      · rfl
      · simp; intro h1 h2; exact absurd ⟨h1, h2⟩ ha
    rw [this, List.append_nil]
  rw [e]; exact h3 d hd
/-- One more. -/
theorem Gp.more {w w' W1 W2 W3 : World} {fo st : Int} {l : List Ack} {a : Ack} {n : Nat} {F : Int → Value} {b c cap : Nat} (hgr : Gr w none w') (hn : n ≤ l.length) (hF : MapIs w' w.heap.size n F) (hO : ∀ d, i64ok d → OwnA w' (w.heap.size + 1) (F d) (grp fo st l d))
    (hS : ∀ d d' b, i64ok d → i64ok d' → (F d).ownBlock = some b → (F d').ownBlock = some b → d = d') (ha : a.f = fo ∧ a.s = st) (hd : i64ok a.d)
    (hG1 : Gr w' none W1) (hG2 : Gr W1 (F a.d).ownBlock W2) (hown : OwnA W2 (w.heap.size + 1) (.slice (some ⟨b, 0, none⟩) c cap) (grp fo st l a.d ++ [a])) (hat : (F a.d).ownBlock = some b ∨ W1.heap.size = b)
    (hM : MapIs W3 w.heap.size (n + 1) (fun x => if x = a.d then .slice (some ⟨b, 0, none⟩) c cap else F x)) (hG3 : Gr W2 (some w.heap.size) W3) : Gp w fo st (l ++ [a]) W3 := by
  have hge := fun d hd => own_ge (hO d hd)
  have hlt := fun d hd => own_lt (hO d hd)
  have hb : w.heap.size + 1 ≤ b := own_ge hown b rfl
  refine ⟨((hgr.trans hG1).on hG2 fun x hx => .inl (by have := hge a.d hd x hx; omega)).on hG3 fun x hx => .inl (by cases hx; exact Nat.le_refl _), n + 1, _, by rw [List.length_append, List.length_singleton]; omega, hM, ?_, ?_⟩
  · intro d hdd
    by_cases e : d = a.d
    · subst e
      rw [if_pos rfl]
      have eg : grp fo st (l ++ [a]) a.d = grp fo st l a.d ++ [a] := by
        unfold grp
        rw [List.filter_append, List.filter_cons_of_pos (by simp [ha])]
        rfl
      rw [eg]
      exact World.ownsRow.kept hown hG3 (.inr (by simp [Value.ownBlock]; omega))
    · rw [if_neg e]
      have eg : grp fo st (l ++ [a]) d = grp fo st l d := by
        unfold grp
        rw [List.filter_append, List.filter_cons_of_neg (by simp; intro _ _ h; exact e h.symm)]
        simp
      rw [eg]
      have k1 := World.ownsRow.kept (hO d hdd) hG1 (by cases (F d).ownBlock <;> simp)
      have k2 := World.ownsRow.kept k1 hG2 (by
        cases hq : (F d).ownBlock with
        | none => exact .inl rfl
        | some y =>
          refine .inr fun h => e ?_
          exact hS d a.d y hdd hd hq h.symm)
      exact World.ownsRow.kept k2 hG3 (by
        cases hq : (F d).ownBlock with
        | none => exact .inl rfl
        | some y => refine .inr fun h => ?_; cases h; have := hge d hdd _ hq; omega)
  · intro d d' x hdd hdd' h1 h2
    have fresh : ∀ d, i64ok d → d ≠ a.d → (F d).ownBlock = some b → False := by
      intro d hdd hne hq
      rcases hat with h | h
      · exact hne (hS d a.d b hdd hd hq h)
      · have := hlt d hdd b hq
        have := hG1.size
        omega
    by_cases e : d = a.d <;> by_cases e' : d' = a.d
    · rw [e, e']
    · rw [if_pos e] at h1; rw [if_neg e'] at h2
      simp only [Value.ownBlock, Option.some.injEq] at h1
      have h1' : b = x := by simpa [Value.ownBlock] using h1
      subst h1'
      exact (fresh d' hdd' e' h2).elim
    · rw [if_neg e] at h1; rw [if_pos e'] at h2
      have h2' : b = x := by simpa [Value.ownBlock] using h2
      subst h2'
      exact (fresh d hdd e h1).elim
    · rw [if_neg e] at h1; rw [if_neg e'] at h2
      exact hS d d' x hdd hdd' h1 h2
end Go.Proofs.YtjibmhmaoegcnaaDoor
