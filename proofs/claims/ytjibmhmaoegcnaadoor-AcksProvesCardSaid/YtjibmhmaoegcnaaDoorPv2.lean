/- Parts of a proof, joined by program: Proves. -/
import Derived.Test.YtjibmhmaoegcnaaDoorPv1
import Derived.Deep.DeepCutAuto
namespace Go.Proofs.YtjibmhmaoegcnaaDoor
open Go.RowKit Go.Shelf
set_option linter.unusedVariables false
set_option linter.unusedSimpArgs false
theorem mem_rangeO {w : World} {b o : Nat} {ms : List Mem} (h : At w b o (ms.flatMap Mem.cells)) (i : Nat) (hi : i < ms.length) : w.rangeAt b (o + i * 3) (ms[i]).cells := by
  intro j v hv
  have hj : j < 3 := (List.getElem?_eq_some_iff.1 hv).1
  rw [mem_cell h i hi j hj]; exact hv
theorem ps_all {XA : Nat} {a : Ack} {V w' : World} (hX : Blk V XA 27 a.cells) (ha : a.ch.length = 32) (h : Gr V none w') :
    w'.cell? ⟨XA, 0, none⟩ = some (.int .i64 a.f) ∧ w'.cell? ⟨XA, 1, none⟩ = some (.int .i64 a.d) ∧ w'.cell? ⟨XA, 2, none⟩ = some (.int .i64 a.s) ∧ w'.cell? ⟨XA, 3, none⟩ = some (.int .i64 a.u) ∧ (convert 28 9 (.slice (some ⟨XA, 4, none⟩) 32 32)).run Tryd.prog w' = .ok (.string ⟨a.ch.toArray⟩) w' ∧ Gr V none w' := by
  have hB := hX.grown h (by simp)
  refine ⟨hB.cell? 0, hB.cell? 1, hB.cell? 2, hB.cell? 3, ?_, h⟩
  have hA : At w' XA 4 (a.ch.map B8) := hB.at 4 _ fun i hi => by
    have hi' : i < a.ch.length := by simpa using hi
    rw [Nat.add_comm]
    show (a.ch.map B8 ++ [.int .i64 a.r, .int .i64 a.g])[i]? = _
    rw [List.getElem?_append_left (by simpa using hi'), List.getElem?_eq_getElem hi]
  have := conv_bytes w' XA 4 32 a.ch hA
  rwa [ha] at this
theorem qs_all {XA XM XD : Nat} {a : Ack} {m : Mem} {dg : List UInt8} {V w' : World} (hX : Blk V XA 27 a.cells) (hM : Blk V XM 47 m.cells) (hD : Blk V XD 23 (dg.map B8)) (ha : a.ch.length = 32) (h : Gr V none w') :
    w'.cell? ⟨XA, 0, none⟩ = some (.int .i64 a.f) ∧ w'.cell? ⟨XA, 1, none⟩ = some (.int .i64 a.d) ∧ w'.cell? ⟨XA, 2, none⟩ = some (.int .i64 a.s) ∧ w'.cell? ⟨XA, 3, none⟩ = some (.int .i64 a.u) ∧ w'.cell? ⟨XA, 36, none⟩ = some (.int .i64 a.r) ∧ w'.cell? ⟨XA, 37, none⟩ = some (.int .i64 a.g) ∧ w'.cell? ⟨XM, 0, none⟩ = some (.int .i64 m.d) ∧ w'.cell? ⟨XM, 2, none⟩ = some (.int .i64 m.ver) ∧ Gr V none w' := by
  have hB := hX.grown h (by simp)
  have hC := hM.grown h (by simp)
  exact ⟨hB.cell? 0, hB.cell? 1, hB.cell? 2, hB.cell? 3, (hB.cell? 36).trans (a.c36 ha), (hB.cell? 37).trans (a.c37 ha), hC.cell? 0, hC.cell? 2, h⟩
set_option maxHeartbeats 2000000 in
set_option maxRecDepth 100000 in
theorem proves_walk (mp lp ep : Option Addr) (mb mo lb lo eb eo mc lc ec : Nat) (fo st : Int) (ms : List Mem) (l : List Ack) (es : List Ent) (w : World) (hK : Laid w) (hl : ∀ a ∈ l, a.ch.length = 32 ∧ a.ints) (hll : l.length ≤ 12) (hml : ms.length ≤ 6) (hmd : ∀ m ∈ ms, i64ok m.d) (hef : ∀ e ∈ es, e.fit) (hel : es.length ≤ 60)
    (hlp : l = [] ∨ (lp = some ⟨lb, lo, none⟩ ∧ lb < w.heap.size ∧ At w lb lo (l.flatMap Ack.cells))) (hmp : ms = [] ∨ (mp = some ⟨mb, mo, none⟩ ∧ mb < w.heap.size ∧ At w mb mo (ms.flatMap Mem.cells))) (hep : es = [] ∨ (ep = some ⟨eb, eo, none⟩ ∧ eb < w.heap.size ∧ At w eb eo (es.flatMap Ent.cells))) :
    Calls Tryd.prog 4 #[.slice mp ms.length mc, .int .i64 fo, .int .i64 st, .slice lp l.length lc, .slice ep es.length ec] w fun e w' => e = .returned (.bool true) ∧ Gr w none w' := by
  have hfew := decide_eq_true (show ms.length ≤ 6 ∧ l.length ≤ 12 ∧ es.length ≤ 60 from ⟨hml, hll, hel⟩)
  have hWr : ∀ W, Gr w none W → Calls Tryd.prog 14 #[.slice mp ms.length mc, .int .i64 fo, .int .i64 st, .slice lp l.length lc, .slice ep es.length ec] W fun e w' => ∃ v, e = .returned v ∧ OwnI w' W.heap.size v (wrongV fo st l ms es) ∧ Gr W none w' := by
    intro W h
    have k1 := hmp.imp_right fun k => (⟨k.1, Nat.lt_of_lt_of_le k.2.1 h.size, k.2.2.grown h (by simp)⟩ : mp = some ⟨mb, mo, none⟩ ∧ mb < W.heap.size ∧ At W mb mo (ms.flatMap Mem.cells))
    have k2 := hlp.imp_right fun k => (⟨k.1, Nat.lt_of_lt_of_le k.2.1 h.size, k.2.2.grown h (by simp)⟩ : lp = some ⟨lb, lo, none⟩ ∧ lb < W.heap.size ∧ At W lb lo (l.flatMap Ack.cells))
    rcases hep with rfl | ⟨rfl, hb, hA⟩
    · exact wrong_at mp lp ep mb mo lb lo 0 0 mc lc ec fo st ms l [] W (hK.new h) hl (by omega) (by omega) hmd k2 k1 hef (by simp) (.inl rfl) (hK.new h).two.1 (fun i hi => by simp at hi)
    · exact wrong_at mp lp _ mb mo lb lo eb eo mc lc ec fo st ms l es W (hK.new h) hl (by omega) (by omega) hmd k2 k1 hef (by omega) (.inr rfl) (Nat.lt_of_lt_of_le hb h.size) (hA.grown h (by simp))
  have hwm : ∀ n ∈ wrongV fo st l ms es, ∃ (i : Nat) (e : Ent), es[i]? = some e ∧ e.gone = true ∧ n = (i : Int) + 1 := by
    intro n hn
    obtain ⟨i, e, h1, h2, h3, _⟩ := mem_wrong.1 hn
    exact ⟨i, e, h1, h2, h3⟩
  have hwl : (wrongV fo st l ms es).length ≤ 60 := by
    unfold wrongV wrongG
    refine Nat.le_trans (List.length_filterMap_le _ _) (Nat.le_trans (goneL_le _) hel)
  have hpl := fun (k : Nat) (e : Ent) => @proves_law fo st l ms es k e
  generalize wrongV fo st l ms es = wv at *
  have hmm := @run_makeMap Tryd.prog
  go_enter Tryd.func4, Tryd.ntmps4
  go_upto_region 6 with (first
    | (go_at_call 8; refine (sane_any w hK).mono ?_; rintro e w1 ⟨rfl, hG1⟩)
    | (go_at_call 13; refine (few_any _ _ _ _ _ _ _ _ _ w1).mono ?_; rintro e w2 ⟨rfl, hG2⟩; rw [hfew]))
  have hM0 := MapB.made w2
  have hG3 : Gr w none (w2.alloc (.map #[] 0)) := (hG1.trans hG2).alloc _
  have hMw : w.heap.size ≤ w2.heap.size := (hG1.trans hG2).size
  change Code.wp _ _ _ _ (w2.alloc (.map #[] 0))
  generalize (w2.alloc (.map #[] 0)) = W3 at *
  generalize w2.heap.size = MB at *
  clear hG1 hG2 hmm
  have HPL := Lib.hid hpl
  have HWM := Lib.hid hwm
  clear hpl hwm
  go_upto_region 7 with (go_at_call 14; refine (hWr W3 hG3).mono ?_; rintro e w4 ⟨v4, rfl, hO4, hG4⟩; obtain ⟨p4, c4, b4, rfl, hat4⟩ := hO4.row)
  have hM4 := hM0.kept hG4 (by simp)
  have hge : ∀ b, (Value.slice p4 wv.length c4).ownBlock = some b → W3.heap.size ≤ b := own_ge hO4
  have hM0l := hM0.lt
  have hG5 := hG3.trans hG4
  clear hWr hO4 hM0 hG3 hG4
  have HW4 := Lib.hid hat4
  clear hat4
  have HL := Lib.hid hl
  have HMD := Lib.hid hmd
  have HEF := Lib.hid hef
  clear hl hmd hef
  go_loopw [39] (fun i wr => ∃ (k n : Nat), k ≤ wv.length ∧ n ≤ k ∧ i = .int .i64 k ∧ MapB wr MB n (fun x => decide (x ∈ wv.take k)) ∧ Gr w4 (some MB) wr) (fun i _ => (wv.length - intOf i).toNat)
  case atStart => exact ⟨0, 0, by omega, by omega, rfl, by simpa using hM4, Gr.refl _ _⟩
  case round =>
    obtain ⟨k, n, hk, hn, rfl, hM, hG⟩ := hrel
    by_cases hlt : k < wv.length
    · obtain ⟨rfl, hAt⟩ := HW4.out.resolve_left (by intro e; rw [e] at hlt; simp at hlt)
      have hb4 : b4 ≠ MB := by have := hge b4 rfl; omega
      have hc := (hAt.grown hG (by simp; exact hb4)).get k (by simpa using hlt)
      rw [List.getElem_map, Nat.zero_add] at hc
      obtain ⟨i, e, h1, h2, h3⟩ := HWM.out wv[k] (List.getElem_mem hlt)
      have HT := Lib.hid (show wv.take (k + 1) = wv.take k ++ [wv[k]] from (List.take_append_getElem hlt).symm)
      have hil : i < es.length := (List.getElem?_eq_some_iff.1 h1).1
      obtain ⟨rfl, heb, heA⟩ := hep.resolve_left (by intro e; rw [e] at hil; simp at hil)
      have hG6 : Gr w none wr := hG5.on hG (by intro b hb; cases hb; exact .inl hMw)
      have hR := ent_range (heA.grown hG6 (by simp)) HEF.out i hil
      have hee : es[i] = e := by rw [List.getElem?_eq_getElem hil] at h1; exact Option.some.inj h1
      rw [hee] at hR
      have hcg : wr.cell? ⟨eb, eo + i * 35 + 34, none⟩ = some (.bool true) := by
        have := hR 34 (.bool e.gone) (Ent.c34 (HEF.out e (by rw [← hee]; exact List.getElem_mem hil)))
        rwa [h2] at this
      unfold I64 at hc
      rw [h3] at hc HT
      have q1 : ¬ ((i : Int) + 1 < 1) := by omega
      have q2 : ¬ ((es.length : Int) < (i : Int) + 1) := by omega
      have q3 : (0 : Int) ≤ (i : Int) := by omega
      have q4 : (i : Int) < (es.length : Int) := by omega
      have q5 : (i : Int) < 60 := by omega
      have q6 : (k : Int) < (wv.length : Int) := by omega
      have q7 : (0 : Int) ≤ (k : Int) := by omega
      have hik : i64ok ((i : Int) + 1) := by unfold i64ok; omega
      clear h1 h2 h3 hee hR hil heA hAt hge hM4 HW4
      go_wp2_with (refine wl_putB rfl _ _ _ rfl MB n (fun x => decide (x ∈ wv.take k)) ((i : Int) + 1) true wr rfl rfl rfl hM (by omega) hik ?_; intro w5 hM5 hG7)
      have hF : (fun x => if x = (i : Int) + 1 then true else decide (x ∈ wv.take k)) = fun x => decide (x ∈ wv.take (k + 1)) := by
        funext x
        rw [HT.out]
        by_cases hx : x = (i : Int) + 1
        · rw [if_pos hx]; symm; rw [decide_eq_true_eq]; exact List.mem_append.2 (.inr (by simp [hx]))
        · rw [if_neg hx, Bool.eq_iff_iff]; simp only [decide_eq_true_eq, List.mem_append, List.mem_singleton, hx, or_false]
      rw [hF] at hM5
      have HM5 := Lib.hid hM5
      clear hM5 hF
      go_roundw
      case rel => exact ⟨k + 1, n + 1, by omega, by omega, int_eq (by omega), HM5.out, hG.trans hG7⟩
      case measure => simp [intOf]; omega
    · obtain rfl : k = wv.length := by omega
      rw [List.take_length] at hM
      clear hlt hM4 HW4
      have hG6 : Gr w none wr := hG5.on hG (by intro b hb; cases hb; exact .inl hMw)
      generalize wr = w6 at *
      clear hG hG5
      go_wp2_with fail
      go_loopw [65] (fun i wr => ∃ (k : Nat), k ≤ es.length ∧ i = .int .i64 k ∧ Gr w6 none wr) (fun i _ => (es.length - intOf i).toNat)
      case atStart => exact ⟨0, by omega, rfl, Gr.refl _ _⟩
      case round =>
        obtain ⟨k, hk, rfl, hG⟩ := hrel
        by_cases hlt : k < es.length
        · obtain ⟨rfl, heb, heA⟩ := hep.resolve_left (by intro e; rw [e] at hlt; simp at hlt)
          have hG7 := hG6.trans hG
          have hR := ent_range (heA.grown hG7 (by simp)) HEF.out k hlt
          have hfit := HEF.out es[k] (List.getElem_mem hlt)
          have hek : es[k]? = some es[k] := List.getElem?_eq_getElem hlt
          generalize es[k] = e at *
          have HEK := Lib.hid hek
          have HFT := Lib.hid hfit
          have hin : ((Tryd.prog).info? 45).map (·.size) = some e.cells.length := by rw [Ent.cells_length hfit]; kernel_rfl
          have hue := Tryd.underlying45
          have hX := Blk.new wr 45 e.cells
          have hGa := hG.alloc (.cells e.cells.toArray 45)
          have hlt' : (k : Int) < (es.length : Int) := by omega
          have hk0 : (0 : Int) ≤ (k : Int) := by omega
          have hk6 : (k : Int) < 60 := by omega
          clear hek heA
          go_upto_region 16 with (first
            | (refine wpList_load_mid rfl _ _ rfl eb (eo + k * 35) rfl e.cells _ hR hue rfl hin ?_)
            | (refine wl_store_new rfl 45 _ _ rfl e.cells _ _ rfl rfl (by kernel_rfl) (by rw [Ent.cells_length HFT.out]; rfl) (Ent.cells_one HFT.out) ?_))
          change Code.wp _ _ _ _ (wr.alloc (.cells e.cells.toArray 45))
          generalize (wr.alloc (.cells e.cells.toArray 45)) = W7 at *
          generalize wr.heap.size = XE at *
          have g34 : W7.cell? ⟨XE, 34, none⟩ = some (.bool e.gone) := (hX.cell? 34).trans (Ent.c34 hfit)
          have g0 : W7.cell? ⟨XE, 0, none⟩ = some (.int .i64 e.k) := hX.cell? 0
          have hik : i64ok ((k : Int) + 1) := by unfold i64ok; omega
          have hlk := (hM.kept hGa (by simp)).look hik
          clear hfit hR hin
          by_cases hg : e.gone = true ∧ ((k : Int) + 1) ∉ wv
          · obtain ⟨hk4, hmne, hall⟩ := HPL.out k e HEK.out hg.1 hg.2
            rw [hg.1] at g34
            rw [decide_eq_false hg.2] at hlk
            rw [hk4] at g0
            have hmz : ((ms.length : Int) == 0) = false := by
              have : ms.length ≠ 0 := fun h => hmne (List.eq_nil_of_length_eq_zero h)
              simp; exact hmne
            have HALL := Lib.hid hall
            clear hall hg hk4 hmne
            have hG8 := hG6.trans hGa
            go_upto_region 19 with fail
            clear hM hlk g34 g0
            go_wp2_with fail
            go_loopw [89] (fun i wr => ∃ (j : Nat), j ≤ ms.length ∧ i = .int .i64 j ∧ Gr W7 none wr) (fun i _ => (ms.length - intOf i).toNat)
            case atStart => exact ⟨0, by omega, rfl, Gr.refl _ _⟩
            case round =>
              obtain ⟨j, hj, rfl, hGm⟩ := hrel
              by_cases hjl : j < ms.length
              · obtain ⟨rfl, hmb, hmA⟩ := hmp.resolve_left (by intro e; rw [e] at hjl; simp at hjl)
                have hG9 := hG8.trans hGm
                have hRm := mem_rangeO (hmA.grown hG9 (by simp)) j hjl
                have hany := HALL.out ms[j] (List.getElem_mem hjl)
                generalize ms[j] = m at *
                have HANY := Lib.hid hany
                have hum := Tryd.underlying47
                have hinm : ((Tryd.prog).info? 47).map (·.size) = some m.cells.length := by rw [show m.cells.length = 3 from rfl]; kernel_rfl
                have hXm := Blk.new wr 47 m.cells
                have hGn := hGm.alloc (.cells m.cells.toArray 47)
                have hjl' : (j : Int) < (ms.length : Int) := by omega
                have hj0 : (0 : Int) ≤ (j : Int) := by omega
                have hj6 : (j : Int) < 6 := by omega
                clear hany hmA
                go_upto_region 22 with (first
                  | (refine wpList_load_mid rfl _ _ rfl mb (mo + j * 3) rfl m.cells _ hRm hum rfl hinm ?_)
                  | (refine wl_store_new rfl 47 _ _ rfl m.cells _ _ rfl rfl (by kernel_rfl) rfl m.cells_one ?_))
                change Code.wp _ _ _ _ (wr.alloc (.cells m.cells.toArray 47))
                generalize (wr.alloc (.cells m.cells.toArray 47)) = W8 at *
                generalize wr.heap.size = XM at *
                clear hRm
                have hG10 := hG8.trans hGn
                go_wp2_with fail
                go_loopw [95, 18] (fun i v wr => ∃ (q : Nat), q ≤ l.length ∧ i = .int .i64 q ∧ v = .bool ((l.take q).any (cntB fo st m k)) ∧ Gr W8 none wr) (fun i _ _ => (l.length - intOf i).toNat)
                case atStart => exact ⟨0, by omega, rfl, rfl, Gr.refl _ _⟩
                case round =>
                  obtain ⟨q, hq, rfl, rfl, hGq⟩ := hrel
                  by_cases hql : q < l.length
                  · obtain ⟨rfl, hlb, hlA⟩ := hlp.resolve_left (by intro e; rw [e] at hql; simp at hql)
                    have hG11 := hG10.trans hGq
                    have hRa := ack_rangeO (hlA.grown hG11 (by simp)) (fun a ha => (HL.out a ha).1) q hql
                    have HT := Lib.hid (show l.take (q + 1) = l.take q ++ [l[q]] from (List.take_append_getElem hql).symm)
                    obtain ⟨ha, hai⟩ := HL.out l[q] (List.getElem_mem hql)
                    generalize l[q] = a at *
                    have hua := Tryd.underlying27
                    have hina : ((Tryd.prog).info? 27).map (·.size) = some a.cells.length := by rw [a.cells_length ha]; kernel_rfl
                    have hXa := Blk.new wr 27 a.cells
                    have hXm9 := (hXm.grown hGq (by simp)).alloc (.cells a.cells.toArray 27)
                    have hGs := hGq.alloc (.cells a.cells.toArray 27)
                    have hql' : (q : Int) < (l.length : Int) := by omega
                    have hq0 : (0 : Int) ≤ (q : Int) := by omega
                    have hq6 : (q : Int) < 12 := by omega
                    obtain ⟨met, hmet⟩ : ∃ met, met = (l.take q).any (cntB fo st m k) := ⟨_, rfl⟩
                    rw [← hmet]
                    have HMET := Lib.hid hmet
                    have hl26 := leaves_ok a [] ha hai (by simp)
                    have hle := encF_le (a.leaves []) hl26 (by simp [Ack.leaves])
                    clear hlA hmet
                    go_upto_region 26 with (first
                      | (refine wpList_load_mid rfl _ _ rfl lb (lo + q * 38) rfl a.cells _ hRa hua rfl hina ?_)
                      | (refine wl_store_new rfl 27 _ _ rfl a.cells _ _ rfl rfl (by kernel_rfl) (by rw [a.cells_length ha]; rfl) a.cells_one ?_))
                    change Code.wp _ _ _ _ (wr.alloc (.cells a.cells.toArray 27))
                    generalize (wr.alloc (.cells a.cells.toArray 27)) = W9 at *
                    generalize wr.heap.size = XA at *
                    clear hRa
                    have hK9 := hK.new (hG10.trans hGs)
                    refine wp_region_held_drew (S := fun w' => w'.cell? ⟨XA, 0, none⟩ = some (.int .i64 a.f) ∧ w'.cell? ⟨XA, 1, none⟩ = some (.int .i64 a.d) ∧ w'.cell? ⟨XA, 2, none⟩ = some (.int .i64 a.s) ∧ w'.cell? ⟨XA, 3, none⟩ = some (.int .i64 a.u) ∧ (convert 28 9 (.slice (some ⟨XA, 4, none⟩) 32 32)).run Tryd.prog w' = .ok (.string ⟨a.ch.toArray⟩) w' ∧ Gr W9 none w') (by kernel_rfl) (ps_all hXa ha ((Gr.refl W9 none).drew)) (fun hS => ?_)
                    refine wpAnyH_take (i := 0) (oi := { dst := some 100, op := _, type := _, pos := _, after := _, guard := _ }) (v := ?v0_237) rfl (by kernel_rfl) (by kernel_rfl) (by kernel_rfl) (fun _ _ _ h => h) (Or.inl ⟨by rfl, ?h0_237⟩) hS ?r0_237
                    case h0_237 => intro w0 hw0; obtain ⟨s0, s1, s2, s3, s4, s5⟩ := hw0; go_simp; try with_reducible rfl
                    simp only [Act.put, List.setIfInBounds_toArray, List.set_cons_zero, List.set_cons_succ]
                    refine wpAnyH_take (i := 1) (oi := { dst := some 101, op := _, type := _, pos := _, after := _, guard := _ }) (v := ?v1_240) rfl (by kernel_rfl) (by kernel_rfl) (by kernel_rfl) (fun _ _ _ h => h) (Or.inl ⟨by rfl, ?h1_240⟩) hS ?r1_240
                    case h1_240 => intro w0 hw0; obtain ⟨s0, s1, s2, s3, s4, s5⟩ := hw0; go_simp; try with_reducible rfl
                    simp only [Act.put, List.setIfInBounds_toArray, List.set_cons_zero, List.set_cons_succ]
                    refine wpAnyH_take (i := 3) (oi := { dst := some 103, op := _, type := _, pos := _, after := _, guard := _ }) (v := ?v3_243) rfl (by kernel_rfl) (by kernel_rfl) (by kernel_rfl) (fun _ _ _ h => h) (Or.inl ⟨by rfl, ?h3_243⟩) hS ?r3_243
                    case h3_243 => intro w0 hw0; obtain ⟨s0, s1, s2, s3, s4, s5⟩ := hw0; go_simp; try with_reducible rfl
                    simp only [Act.put, List.setIfInBounds_toArray, List.set_cons_zero, List.set_cons_succ]
                    refine wpAnyH_take (i := 4) (oi := { dst := some 104, op := _, type := _, pos := _, after := _, guard := _ }) (v := ?v4_246) rfl (by kernel_rfl) (by kernel_rfl) (by kernel_rfl) (fun _ _ _ h => h) (Or.inl ⟨by rfl, ?h4_246⟩) hS ?r4_246
                    case h4_246 => intro w0 hw0; obtain ⟨s0, s1, s2, s3, s4, s5⟩ := hw0; go_simp; try with_reducible rfl
                    simp only [Act.put, List.setIfInBounds_toArray, List.set_cons_zero, List.set_cons_succ]
                    refine wpAnyH_take (i := 6) (oi := { dst := some 106, op := _, type := _, pos := _, after := _, guard := _ }) (v := ?v6_249) rfl (by kernel_rfl) (by kernel_rfl) (by kernel_rfl) (fun _ _ _ h => h) (Or.inl ⟨by rfl, ?h6_249⟩) hS ?r6_249
                    case h6_249 => intro w0 hw0; obtain ⟨s0, s1, s2, s3, s4, s5⟩ := hw0; go_simp; try with_reducible rfl
                    simp only [Act.put, List.setIfInBounds_toArray, List.set_cons_zero, List.set_cons_succ]
                    refine wpAnyH_take (i := 7) (oi := { dst := some 107, op := _, type := _, pos := _, after := _, guard := _ }) (v := ?v7_252) rfl (by kernel_rfl) (by kernel_rfl) (by kernel_rfl) (fun _ _ _ h => h) (Or.inl ⟨by rfl, ?h7_252⟩) hS ?r7_252
                    case h7_252 => intro w0 hw0; obtain ⟨s0, s1, s2, s3, s4, s5⟩ := hw0; go_simp; try with_reducible rfl
                    simp only [Act.put, List.setIfInBounds_toArray, List.set_cons_zero, List.set_cons_succ]
                    refine wpAnyH_take (i := 9) (oi := { dst := some 109, op := _, type := _, pos := _, after := _, guard := _ }) (v := ?v9_255) rfl (by kernel_rfl) (by kernel_rfl) (by kernel_rfl) (fun _ _ _ h => h) (Or.inl ⟨by rfl, ?h9_255⟩) hS ?r9_255
                    case h9_255 => intro w0 hw0; obtain ⟨s0, s1, s2, s3, s4, s5⟩ := hw0; go_simp; try with_reducible rfl
                    simp only [Act.put, List.setIfInBounds_toArray, List.set_cons_zero, List.set_cons_succ]
                    refine wpAnyH_take (i := 10) (oi := { dst := some 110, op := _, type := _, pos := _, after := _, guard := _ }) (v := ?v10_258) rfl (by kernel_rfl) (by kernel_rfl) (by kernel_rfl) (fun _ _ _ h => h) (Or.inl ⟨by rfl, ?h10_258⟩) hS ?r10_258
                    case h10_258 => intro w0 hw0; obtain ⟨s0, s1, s2, s3, s4, s5⟩ := hw0; go_simp; try with_reducible rfl
                    simp only [Act.put, List.setIfInBounds_toArray, List.set_cons_zero, List.set_cons_succ]
                    refine wpAnyH_take (i := 12) (oi := { dst := some 112, op := _, type := _, pos := _, after := _, guard := _ }) (v := ?v12_261) rfl (by kernel_rfl) (by kernel_rfl) (by kernel_rfl) (fun _ _ _ h => h) (Or.inl ⟨by rfl, ?h12_261⟩) hS ?r12_261
                    case h12_261 => intro w0 hw0; obtain ⟨s0, s1, s2, s3, s4, s5⟩ := hw0; go_simp; try with_reducible rfl
                    simp only [Act.put, List.setIfInBounds_toArray, List.set_cons_zero, List.set_cons_succ]
                    refine wpAnyH_take (i := 13) (oi := { dst := some 113, op := _, type := _, pos := _, after := _, guard := _ }) (v := ?v13_264) rfl (by kernel_rfl) (by kernel_rfl) (by kernel_rfl) (fun _ _ _ h => h) (Or.inl ⟨by rfl, ?h13_264⟩) hS ?r13_264
                    case h13_264 => intro w0 hw0; obtain ⟨s0, s1, s2, s3, s4, s5⟩ := hw0; go_simp; try with_reducible rfl
                    simp only [Act.put, List.setIfInBounds_toArray, List.set_cons_zero, List.set_cons_succ]
                    refine wpAnyH_take (i := 14) (oi := { dst := some 114, op := _, type := _, pos := _, after := _, guard := _ }) (v := ?v14_267) rfl (by kernel_rfl) (by kernel_rfl) (by kernel_rfl) (fun _ _ _ h => h) (Or.inl ⟨by rfl, ?h14_267⟩) hS ?r14_267
                    case h14_267 => intro w0 hw0; obtain ⟨s0, s1, s2, s3, s4, s5⟩ := hw0; go_simp; try with_reducible rfl
                    simp only [Act.put, List.setIfInBounds_toArray, List.set_cons_zero, List.set_cons_succ]
                    refine wpAnyH_take (i := 15) (oi := { dst := some 115, op := _, type := _, pos := _, after := _, guard := _ }) (v := ?v15_270) rfl (by kernel_rfl) (by kernel_rfl) (by kernel_rfl) (fun _ _ _ h => h) (Or.inl ⟨by rfl, ?h15_270⟩) hS ?r15_270
                    case h15_270 => intro w0 hw0; obtain ⟨s0, s1, s2, s3, s4, s5⟩ := hw0; go_simp; try with_reducible rfl
                    simp only [Act.put, List.setIfInBounds_toArray, List.set_cons_zero, List.set_cons_succ]
                    have hT0 : Gr W9 none W9.drew := (Gr.refl W9 none).drew
                    refine wpAnyH_ready (rs := [2]) (by kernel_rfl) (by simp) ?_
                    refine AllReadyH.cons (o := { dst := some 102, op := _, type := _, pos := _, after := _, guard := _ }) rfl (fun K hK' => ?_) AllReadyH.nil
                    rw [if_pos (by rfl)]
                    go_simp
                    refine (num_any a.f _).mono ?_
                    rintro e x0 ⟨rfl, hN0⟩
                    have hT1 := hT0.trans hN0
                    refine hK'.out _ _ (ps_all hXa ha hT1) (fun hS0 => ?_)
                    clear hK' K hS
                    refine wpAnyH_ready (rs := [5]) (by kernel_rfl) (by simp) ?_
                    refine AllReadyH.cons (o := { dst := some 105, op := _, type := _, pos := _, after := _, guard := _ }) rfl (fun K hK' => ?_) AllReadyH.nil
                    rw [if_pos (by rfl)]
                    go_simp
                    refine (num_any a.d _).mono ?_
                    rintro e x1 ⟨rfl, hN1⟩
                    have hT2 := hT1.trans hN1
                    refine hK'.out _ _ (ps_all hXa ha hT2) (fun hS1 => ?_)
                    clear hK' K hS0
                    refine wpAnyH_ready (rs := [8]) (by kernel_rfl) (by simp) ?_
                    refine AllReadyH.cons (o := { dst := some 108, op := _, type := _, pos := _, after := _, guard := _ }) rfl (fun K hK' => ?_) AllReadyH.nil
                    rw [if_pos (by rfl)]
                    go_simp
                    refine (num_any a.s _).mono ?_
                    rintro e x2 ⟨rfl, hN2⟩
                    have hT3 := hT2.trans hN2
                    refine hK'.out _ _ (ps_all hXa ha hT3) (fun hS2 => ?_)
                    clear hK' K hS1
                    refine wpAnyH_ready (rs := [11]) (by kernel_rfl) (by simp) ?_
                    refine AllReadyH.cons (o := { dst := some 111, op := _, type := _, pos := _, after := _, guard := _ }) rfl (fun K hK' => ?_) AllReadyH.nil
                    rw [if_pos (by rfl)]
                    go_simp
                    refine (num_any a.u _).mono ?_
                    rintro e x3 ⟨rfl, hN3⟩
                    have hT4 := hT3.trans hN3
                    refine hK'.out _ _ (ps_all hXa ha hT4) (fun hS3 => ?_)
                    clear hK' K hS2
                    refine wpAnyH_ready (rs := [16]) (by kernel_rfl) (by simp) ?_
                    refine AllReadyH.cons (o := { dst := some 116, op := _, type := _, pos := _, after := _, guard := _ }) rfl (fun K hK' => ?_) AllReadyH.nil
                    rw [if_pos (by rfl)]
                    go_simp
                    -- [tail
                    have hT5 := hT4.alloc (.cells ((a.leaves []).flatMap Leaf.cells).toArray 51)
                    have hA5 := at_new x3 ((a.leaves []).flatMap Leaf.cells) 51
                    have hb5 : x3.heap.size < (x3.alloc (.cells ((a.leaves []).flatMap Leaf.cells).toArray 51)).heap.size := by rw [World.size_alloc]; omega
                    have hEn := encode_list (a.leaves []) x3.heap.size 5 _ hb5 hA5 (by simp [Ack.leaves]) (by simp [Ack.leaves]) hl26
                    rw [show (a.leaves []).length = 5 from rfl] at hEn
                    refine hK'.out _ _ (ps_all hXa ha hT5) (fun hS5 => ?_)
                    clear hS5
                    have hS5 := True.intro
                    clear hK' K hS3 hA5 hb5
                    change wpAnyH _ _ _ _ _ _ _ _ (x3.alloc (.cells ((a.leaves []).flatMap Leaf.cells).toArray 51))
                    generalize (x3.alloc (.cells ((a.leaves []).flatMap Leaf.cells).toArray 51)) = x4 at *
                    replace hS5 := ps_all hXa ha hT5
                    refine wpAnyH_take (i := 17) (oi := { dst := some 117, op := _, type := _, pos := _, after := _, guard := _ }) (v := ?v17_327) rfl (by kernel_rfl) (by kernel_rfl) (by kernel_rfl) (fun _ _ _ h => h) (Or.inl ⟨by rfl, ?h17_327⟩) hS5 ?r17_327
                    case h17_327 => intro w0 hw0; obtain ⟨s0, s1, s2, s3, s4, s5⟩ := hw0; go_simp; try with_reducible rfl
                    simp only [Act.put, List.setIfInBounds_toArray, List.set_cons_zero, List.set_cons_succ]
                    refine wpAnyH_ready (rs := [18]) (by kernel_rfl) (by simp) ?_
                    refine AllReadyH.cons (o := { dst := some 118, op := _, type := _, pos := _, after := _, guard := _ }) rfl (fun K hK' => ?_) AllReadyH.nil
                    rw [if_pos (by rfl)]
                    go_simp
                    refine hEn.mono ?_
                    rintro e x5 ⟨v5, rfl, hv5, hne5, hN5⟩
                    have hT6 := hT5.trans hN5
                    have hB5 := hv5.bytes hne5
                    refine hK'.out _ _ (ps_all hXa ha hT6) (fun hS6 => ?_)
                    clear hK' K hS5
                    refine wpAnyH_take (i := 19) (oi := { dst := some 99, op := _, type := _, pos := _, after := _, guard := _ }) (v := ?v19_340) rfl (by kernel_rfl) (by kernel_rfl) (by kernel_rfl) (fun _ _ _ h => h) (Or.inl ⟨by rfl, ?h19_340⟩) hS6 ?r19_340
                    case h19_340 => intro w0 hw0; obtain ⟨s0, s1, s2, s3, s4, s5⟩ := hw0; go_simp; try with_reducible rfl
                    simp only [Act.put, List.setIfInBounds_toArray, List.set_cons_zero, List.set_cons_succ]
                    refine wpAnyH_take (i := 20) (oi := { dst := some 119, op := _, type := _, pos := _, after := _, guard := _ }) (v := ?v20_343) rfl (by kernel_rfl) (by kernel_rfl) (by kernel_rfl) (fun _ _ _ h => h) (Or.inl ⟨by rfl, ?h20_343⟩) hS6 ?r20_343
                    case h20_343 => intro w0 hw0; obtain ⟨s0, s1, s2, s3, s4, s5⟩ := hw0; go_simp; try with_reducible rfl
                    simp only [Act.put, List.setIfInBounds_toArray, List.set_cons_zero, List.set_cons_succ]
                    refine wpAnyH_take (i := 21) (oi := { dst := some 120, op := _, type := _, pos := _, after := _, guard := _ }) (v := ?v21_346) rfl (by kernel_rfl) (by kernel_rfl) (by kernel_rfl) (fun _ _ _ h => h) (Or.inl ⟨by rfl, ?h21_346⟩) hS6 ?r21_346
                    case h21_346 => intro w0 hw0; obtain ⟨s0, s1, s2, s3, s4, s5⟩ := hw0; go_simp; try with_reducible rfl
                    simp only [Act.put, List.setIfInBounds_toArray, List.set_cons_zero, List.set_cons_succ]
                    refine wpAnyH_take (i := 22) (oi := { dst := some 21, op := _, type := _, pos := _, after := _, guard := _ }) (v := ?v22_349) rfl (by kernel_rfl) (by kernel_rfl) (by kernel_rfl) (fun _ _ _ h => h) (Or.inl ⟨by rfl, ?h22_349⟩) hS6 ?r22_349
                    case h22_349 => intro w0 hw0; obtain ⟨s0, s1, s2, s3, s4, s5⟩ := hw0; go_simp; try with_reducible rfl
                    simp only [Act.put, List.setIfInBounds_toArray, List.set_cons_zero, List.set_cons_succ]
                    refine wpAnyH_take (i := 23) (oi := { dst := some 22, op := _, type := _, pos := _, after := _, guard := _ }) (v := ?v23_352) rfl (by kernel_rfl) (by kernel_rfl) (by kernel_rfl) (fun _ _ _ h => h) (Or.inl ⟨by rfl, ?h23_352⟩) hS6 ?r23_352
                    case h23_352 => intro w0 hw0; obtain ⟨s0, s1, s2, s3, s4, s5⟩ := hw0; go_simp; try with_reducible rfl
                    simp only [Act.put, List.setIfInBounds_toArray, List.set_cons_zero, List.set_cons_succ]
                    refine wpAnyH_done (by kernel_rfl) ?_ _
                    clear hS6 hEn hN0 hN1 hN2 hN3 hN5 hT0 hT1 hT2 hT3 hT4 hT5
                    go_upto_region 28 with (first
                      | (go_at_call 17; refine (tagged_any _ v5 (encF (a.leaves [])) x5 (by decide) (by omega) hB5 (hK9.new hT6)).mono ?_; rintro e x6 ⟨rfl, hN6⟩)
                      | (refine wl_store_new rfl 23 _ _ rfl (a.msg.map B8) _ _ rfl rfl (by kernel_rfl) (by rw [List.length_map, a.msg_length]; rfl) (ones_B8 _) ?_))
                    have hGD : Gr W9 none (x6.alloc (.cells (a.msg.map B8).toArray 23)) := (hT6.trans hN6).alloc _
                    have hXD := Blk.new x6 23 (a.msg.map B8)
                    change Code.wp _ _ _ _ (x6.alloc (.cells (a.msg.map B8).toArray 23))
                    generalize (x6.alloc (.cells (a.msg.map B8).toArray 23)) = WD at *
                    generalize x6.heap.size = XD at *
                    have hXA := hXa.grown hGD (by simp)
                    have hXMm := hXm9.grown hGD (by simp)
                    have hGt := hGs.trans hGD
                    have hVf : ∀ W, Gr WD none W → Calls Tryd.prog 18 #[.int .i64 m.ver, .slice (some ⟨XD, 0, none⟩) 32 32, .agg #[.int .i64 a.r, .int .i64 a.g]] W fun e w' => e = .returned (.bool (verifyB m.ver a.msg a.r a.g)) ∧ Gr W none w' := by
                      intro W h
                      refine verify_any m.ver a.r a.g _ a.msg W (by rw [a.msg_length]; omega) ⟨XD, 0, 32, by rw [a.msg_length], by rw [a.msg_length]; exact Nat.le_refl _, by decide, Nat.lt_of_lt_of_le hXD.lt h.size, (hXD.at0).grown h (by simp)⟩ (hK9.new (hGD.trans h))
                    have hMS := Lib.hid (show (l.take (q + 1)).any (cntB fo st m k) = (met || cntB fo st m k a) by rw [HT.out, List.any_append, HMET.out]; simp)
                    clear hXa hXm9 hT6 hN6 hB5 hv5 hne5 hl26 hle
                    have hGz := hGt.drew
                    cases met with
                    | true =>
                      refine wp_region_held_drew (S := fun w' => w'.cell? ⟨XA, 0, none⟩ = some (.int .i64 a.f) ∧ w'.cell? ⟨XA, 1, none⟩ = some (.int .i64 a.d) ∧ w'.cell? ⟨XA, 2, none⟩ = some (.int .i64 a.s) ∧ w'.cell? ⟨XA, 3, none⟩ = some (.int .i64 a.u) ∧ w'.cell? ⟨XA, 36, none⟩ = some (.int .i64 a.r) ∧ w'.cell? ⟨XA, 37, none⟩ = some (.int .i64 a.g) ∧ w'.cell? ⟨XM, 0, none⟩ = some (.int .i64 m.d) ∧ w'.cell? ⟨XM, 2, none⟩ = some (.int .i64 m.ver) ∧ Gr WD none w') (by kernel_rfl) (qs_all hXA hXMm hXD ha ((Gr.refl WD none).drew)) (fun hS => ?_)
                      refine wpAnyH_take (i := 0) (oi := { dst := some 123, op := _, type := _, pos := _, after := _, guard := _ }) (v := ?v0_377) rfl (by kernel_rfl) (by kernel_rfl) (by kernel_rfl) (fun _ _ _ h => h) (Or.inl ⟨by rfl, ?h0_377⟩) hS ?r0_377
                      case h0_377 => intro w0 hw0; obtain ⟨s0, s1, s2, s3, s4, s5, s6, s7, s8⟩ := hw0; go_simp; try with_reducible rfl
                      simp only [Act.put, List.setIfInBounds_toArray, List.set_cons_zero, List.set_cons_succ]
                      refine wpAnyH_take (i := 1) (oi := { dst := some 124, op := _, type := _, pos := _, after := _, guard := _ }) (v := ?v1_380) rfl (by kernel_rfl) (by kernel_rfl) (by kernel_rfl) (fun _ _ _ h => h) (Or.inl ⟨by rfl, ?h1_380⟩) hS ?r1_380
                      case h1_380 => intro w0 hw0; obtain ⟨s0, s1, s2, s3, s4, s5, s6, s7, s8⟩ := hw0; go_simp; try with_reducible rfl
                      simp only [Act.put, List.setIfInBounds_toArray, List.set_cons_zero, List.set_cons_succ]
                      refine wpAnyH_take (i := 2) (oi := { dst := some 125, op := _, type := _, pos := _, after := _, guard := _ }) (v := undef) rfl (by kernel_rfl) (by kernel_rfl) (by kernel_rfl) (fun _ _ _ h => h) (Or.inr ⟨by rfl, rfl⟩) hS ?r2_383
                      simp only [Act.put, List.setIfInBounds_toArray, List.set_cons_zero, List.set_cons_succ]
                      refine wpAnyH_take (i := 3) (oi := { dst := some 126, op := _, type := _, pos := _, after := _, guard := _ }) (v := undef) rfl (by kernel_rfl) (by kernel_rfl) (by kernel_rfl) (fun _ _ _ h => h) (Or.inr ⟨by rfl, rfl⟩) hS ?r3_385
                      simp only [Act.put, List.setIfInBounds_toArray, List.set_cons_zero, List.set_cons_succ]
                      refine wpAnyH_take (i := 4) (oi := { dst := some 127, op := _, type := _, pos := _, after := _, guard := _ }) (v := undef) rfl (by kernel_rfl) (by kernel_rfl) (by kernel_rfl) (fun _ _ _ h => h) (Or.inr ⟨by rfl, rfl⟩) hS ?r4_387
                      simp only [Act.put, List.setIfInBounds_toArray, List.set_cons_zero, List.set_cons_succ]
                      refine wpAnyH_take (i := 5) (oi := { dst := some 128, op := _, type := _, pos := _, after := _, guard := _ }) (v := undef) rfl (by kernel_rfl) (by kernel_rfl) (by kernel_rfl) (fun _ _ _ h => h) (Or.inr ⟨by rfl, rfl⟩) hS ?r5_389
                      simp only [Act.put, List.setIfInBounds_toArray, List.set_cons_zero, List.set_cons_succ]
                      refine wpAnyH_take (i := 6) (oi := { dst := some 129, op := _, type := _, pos := _, after := _, guard := _ }) (v := undef) rfl (by kernel_rfl) (by kernel_rfl) (by kernel_rfl) (fun _ _ _ h => h) (Or.inr ⟨by rfl, rfl⟩) hS ?r6_391
                      simp only [Act.put, List.setIfInBounds_toArray, List.set_cons_zero, List.set_cons_succ]
                      refine wpAnyH_take (i := 7) (oi := { dst := some 130, op := _, type := _, pos := _, after := _, guard := _ }) (v := undef) rfl (by kernel_rfl) (by kernel_rfl) (by kernel_rfl) (fun _ _ _ h => h) (Or.inr ⟨by rfl, rfl⟩) hS ?r7_393
                      simp only [Act.put, List.setIfInBounds_toArray, List.set_cons_zero, List.set_cons_succ]
                      refine wpAnyH_take (i := 8) (oi := { dst := some 131, op := _, type := _, pos := _, after := _, guard := _ }) (v := undef) rfl (by kernel_rfl) (by kernel_rfl) (by kernel_rfl) (fun _ _ _ h => h) (Or.inr ⟨by rfl, rfl⟩) hS ?r8_395
                      simp only [Act.put, List.setIfInBounds_toArray, List.set_cons_zero, List.set_cons_succ]
                      refine wpAnyH_take (i := 9) (oi := { dst := some 132, op := _, type := _, pos := _, after := _, guard := _ }) (v := undef) rfl (by kernel_rfl) (by kernel_rfl) (by kernel_rfl) (fun _ _ _ h => h) (Or.inr ⟨by rfl, rfl⟩) hS ?r9_397
                      simp only [Act.put, List.setIfInBounds_toArray, List.set_cons_zero, List.set_cons_succ]
                      refine wpAnyH_take (i := 10) (oi := { dst := some 133, op := _, type := _, pos := _, after := _, guard := _ }) (v := undef) rfl (by kernel_rfl) (by kernel_rfl) (by kernel_rfl) (fun _ _ _ h => h) (Or.inr ⟨by rfl, rfl⟩) hS ?r10_399
                      simp only [Act.put, List.setIfInBounds_toArray, List.set_cons_zero, List.set_cons_succ]
                      refine wpAnyH_take (i := 11) (oi := { dst := some 134, op := _, type := _, pos := _, after := _, guard := _ }) (v := undef) rfl (by kernel_rfl) (by kernel_rfl) (by kernel_rfl) (fun _ _ _ h => h) (Or.inr ⟨by rfl, rfl⟩) hS ?r11_401
                      simp only [Act.put, List.setIfInBounds_toArray, List.set_cons_zero, List.set_cons_succ]
                      refine wpAnyH_take (i := 12) (oi := { dst := some 135, op := _, type := _, pos := _, after := _, guard := _ }) (v := undef) rfl (by kernel_rfl) (by kernel_rfl) (by kernel_rfl) (fun _ _ _ h => h) (Or.inr ⟨by rfl, rfl⟩) hS ?r12_403
                      simp only [Act.put, List.setIfInBounds_toArray, List.set_cons_zero, List.set_cons_succ]
                      refine wpAnyH_take (i := 13) (oi := { dst := some 136, op := _, type := _, pos := _, after := _, guard := _ }) (v := undef) rfl (by kernel_rfl) (by kernel_rfl) (by kernel_rfl) (fun _ _ _ h => h) (Or.inr ⟨by rfl, rfl⟩) hS ?r13_405
                      simp only [Act.put, List.setIfInBounds_toArray, List.set_cons_zero, List.set_cons_succ]
                      refine wpAnyH_take (i := 14) (oi := { dst := some 137, op := _, type := _, pos := _, after := _, guard := _ }) (v := undef) rfl (by kernel_rfl) (by kernel_rfl) (by kernel_rfl) (fun _ _ _ h => h) (Or.inr ⟨by rfl, rfl⟩) hS ?r14_407
                      simp only [Act.put, List.setIfInBounds_toArray, List.set_cons_zero, List.set_cons_succ]
                      refine wpAnyH_take (i := 15) (oi := { dst := some 138, op := _, type := _, pos := _, after := _, guard := _ }) (v := undef) rfl (by kernel_rfl) (by kernel_rfl) (by kernel_rfl) (fun _ _ _ h => h) (Or.inr ⟨by rfl, rfl⟩) hS ?r15_409
                      simp only [Act.put, List.setIfInBounds_toArray, List.set_cons_zero, List.set_cons_succ]
                      refine wpAnyH_take (i := 16) (oi := { dst := some 139, op := _, type := _, pos := _, after := _, guard := _ }) (v := undef) rfl (by kernel_rfl) (by kernel_rfl) (by kernel_rfl) (fun _ _ _ h => h) (Or.inr ⟨by rfl, rfl⟩) hS ?r16_411
                      simp only [Act.put, List.setIfInBounds_toArray, List.set_cons_zero, List.set_cons_succ]
                      refine wpAnyH_take (i := 17) (oi := { dst := some 140, op := _, type := _, pos := _, after := _, guard := _ }) (v := undef) rfl (by kernel_rfl) (by kernel_rfl) (by kernel_rfl) (fun _ _ _ h => h) (Or.inr ⟨by rfl, rfl⟩) hS ?r17_413
                      simp only [Act.put, List.setIfInBounds_toArray, List.set_cons_zero, List.set_cons_succ]
                      refine wpAnyH_take (i := 18) (oi := { dst := some 141, op := _, type := _, pos := _, after := _, guard := _ }) (v := undef) rfl (by kernel_rfl) (by kernel_rfl) (by kernel_rfl) (fun _ _ _ h => h) (Or.inr ⟨by rfl, rfl⟩) hS ?r18_415
                      simp only [Act.put, List.setIfInBounds_toArray, List.set_cons_zero, List.set_cons_succ]
                      refine wpAnyH_take (i := 19) (oi := { dst := some 142, op := _, type := _, pos := _, after := _, guard := _ }) (v := undef) rfl (by kernel_rfl) (by kernel_rfl) (by kernel_rfl) (fun _ _ _ h => h) (Or.inr ⟨by rfl, rfl⟩) hS ?r19_417
                      simp only [Act.put, List.setIfInBounds_toArray, List.set_cons_zero, List.set_cons_succ]
                      refine wpAnyH_take (i := 20) (oi := { dst := some 143, op := _, type := _, pos := _, after := _, guard := _ }) (v := undef) rfl (by kernel_rfl) (by kernel_rfl) (by kernel_rfl) (fun _ _ _ h => h) (Or.inr ⟨by rfl, rfl⟩) hS ?r20_419
                      simp only [Act.put, List.setIfInBounds_toArray, List.set_cons_zero, List.set_cons_succ]
                      refine wpAnyH_take (i := 21) (oi := { dst := some 144, op := _, type := _, pos := _, after := _, guard := _ }) (v := undef) rfl (by kernel_rfl) (by kernel_rfl) (by kernel_rfl) (fun _ _ _ h => h) (Or.inr ⟨by rfl, rfl⟩) hS ?r21_421
                      simp only [Act.put, List.setIfInBounds_toArray, List.set_cons_zero, List.set_cons_succ]
                      refine wpAnyH_take (i := 22) (oi := { dst := some 145, op := _, type := _, pos := _, after := _, guard := _ }) (v := undef) rfl (by kernel_rfl) (by kernel_rfl) (by kernel_rfl) (fun _ _ _ h => h) (Or.inr ⟨by rfl, rfl⟩) hS ?r22_423
                      simp only [Act.put, List.setIfInBounds_toArray, List.set_cons_zero, List.set_cons_succ]
                      refine wpAnyH_take (i := 23) (oi := { dst := some 146, op := _, type := _, pos := _, after := _, guard := _ }) (v := undef) rfl (by kernel_rfl) (by kernel_rfl) (by kernel_rfl) (fun _ _ _ h => h) (Or.inr ⟨by rfl, rfl⟩) hS ?r23_425
                      simp only [Act.put, List.setIfInBounds_toArray, List.set_cons_zero, List.set_cons_succ]
                      refine wpAnyH_take (i := 24) (oi := { dst := some 147, op := _, type := _, pos := _, after := _, guard := _ }) (v := undef) rfl (by kernel_rfl) (by kernel_rfl) (by kernel_rfl) (fun _ _ _ h => h) (Or.inr ⟨by rfl, rfl⟩) hS ?r24_427
                      simp only [Act.put, List.setIfInBounds_toArray, List.set_cons_zero, List.set_cons_succ]
                      refine wpAnyH_take (i := 25) (oi := { dst := some 148, op := _, type := _, pos := _, after := _, guard := _ }) (v := undef) rfl (by kernel_rfl) (by kernel_rfl) (by kernel_rfl) (fun _ _ _ h => h) (Or.inr ⟨by rfl, rfl⟩) hS ?r25_429
                      simp only [Act.put, List.setIfInBounds_toArray, List.set_cons_zero, List.set_cons_succ]
                      refine wpAnyH_take (i := 26) (oi := { dst := some 149, op := _, type := _, pos := _, after := _, guard := _ }) (v := undef) rfl (by kernel_rfl) (by kernel_rfl) (by kernel_rfl) (fun _ _ _ h => h) (Or.inr ⟨by rfl, rfl⟩) hS ?r26_431
                      simp only [Act.put, List.setIfInBounds_toArray, List.set_cons_zero, List.set_cons_succ]
                      refine wpAnyH_take (i := 27) (oi := { dst := some 150, op := _, type := _, pos := _, after := _, guard := _ }) (v := undef) rfl (by kernel_rfl) (by kernel_rfl) (by kernel_rfl) (fun _ _ _ h => h) (Or.inr ⟨by rfl, rfl⟩) hS ?r27_433
                      simp only [Act.put, List.setIfInBounds_toArray, List.set_cons_zero, List.set_cons_succ]
                      refine wpAnyH_take (i := 28) (oi := { dst := some 151, op := _, type := _, pos := _, after := _, guard := _ }) (v := undef) rfl (by kernel_rfl) (by kernel_rfl) (by kernel_rfl) (fun _ _ _ h => h) (Or.inr ⟨by rfl, rfl⟩) hS ?r28_435
                      simp only [Act.put, List.setIfInBounds_toArray, List.set_cons_zero, List.set_cons_succ]
                      refine wpAnyH_take (i := 29) (oi := { dst := some 152, op := _, type := _, pos := _, after := _, guard := _ }) (v := undef) rfl (by kernel_rfl) (by kernel_rfl) (by kernel_rfl) (fun _ _ _ h => h) (Or.inr ⟨by rfl, rfl⟩) hS ?r29_437
                      simp only [Act.put, List.setIfInBounds_toArray, List.set_cons_zero, List.set_cons_succ]
                      refine wpAnyH_take (i := 30) (oi := { dst := some 153, op := _, type := _, pos := _, after := _, guard := _ }) (v := undef) rfl (by kernel_rfl) (by kernel_rfl) (by kernel_rfl) (fun _ _ _ h => h) (Or.inr ⟨by rfl, rfl⟩) hS ?r30_439
                      simp only [Act.put, List.setIfInBounds_toArray, List.set_cons_zero, List.set_cons_succ]
                      refine wpAnyH_take (i := 31) (oi := { dst := some 154, op := _, type := _, pos := _, after := _, guard := _ }) (v := undef) rfl (by kernel_rfl) (by kernel_rfl) (by kernel_rfl) (fun _ _ _ h => h) (Or.inr ⟨by rfl, rfl⟩) hS ?r31_441
                      simp only [Act.put, List.setIfInBounds_toArray, List.set_cons_zero, List.set_cons_succ]
                      refine wpAnyH_take (i := 32) (oi := { dst := some 155, op := _, type := _, pos := _, after := _, guard := _ }) (v := undef) rfl (by kernel_rfl) (by kernel_rfl) (by kernel_rfl) (fun _ _ _ h => h) (Or.inr ⟨by rfl, rfl⟩) hS ?r32_443
                      simp only [Act.put, List.setIfInBounds_toArray, List.set_cons_zero, List.set_cons_succ]
                      refine wpAnyH_take (i := 33) (oi := { dst := some 156, op := _, type := _, pos := _, after := _, guard := _ }) (v := undef) rfl (by kernel_rfl) (by kernel_rfl) (by kernel_rfl) (fun _ _ _ h => h) (Or.inr ⟨by rfl, rfl⟩) hS ?r33_445
                      simp only [Act.put, List.setIfInBounds_toArray, List.set_cons_zero, List.set_cons_succ]
                      refine wpAnyH_take (i := 34) (oi := { dst := some 157, op := _, type := _, pos := _, after := _, guard := _ }) (v := undef) rfl (by kernel_rfl) (by kernel_rfl) (by kernel_rfl) (fun _ _ _ h => h) (Or.inr ⟨by rfl, rfl⟩) hS ?r34_447
                      simp only [Act.put, List.setIfInBounds_toArray, List.set_cons_zero, List.set_cons_succ]
                      refine wpAnyH_take (i := 35) (oi := { dst := some 158, op := _, type := _, pos := _, after := _, guard := _ }) (v := undef) rfl (by kernel_rfl) (by kernel_rfl) (by kernel_rfl) (fun _ _ _ h => h) (Or.inr ⟨by rfl, rfl⟩) hS ?r35_449
                      simp only [Act.put, List.setIfInBounds_toArray, List.set_cons_zero, List.set_cons_succ]
                      refine wpAnyH_take (i := 36) (oi := { dst := some 159, op := _, type := _, pos := _, after := _, guard := _ }) (v := undef) rfl (by kernel_rfl) (by kernel_rfl) (by kernel_rfl) (fun _ _ _ h => h) (Or.inr ⟨by rfl, rfl⟩) hS ?r36_451
                      simp only [Act.put, List.setIfInBounds_toArray, List.set_cons_zero, List.set_cons_succ]
                      refine wpAnyH_take (i := 37) (oi := { dst := some 160, op := _, type := _, pos := _, after := _, guard := _ }) (v := ?v37_453) rfl (by kernel_rfl) (by kernel_rfl) (by kernel_rfl) (fun _ _ _ h => h) (Or.inl ⟨by rfl, ?h37_453⟩) hS ?r37_453
                      case h37_453 => intro w0 hw0; obtain ⟨s0, s1, s2, s3, s4, s5, s6, s7, s8⟩ := hw0; go_simp; try with_reducible rfl
                      simp only [Act.put, List.setIfInBounds_toArray, List.set_cons_zero, List.set_cons_succ]
                      refine wpAnyH_take (i := 38) (oi := { dst := some 18, op := _, type := _, pos := _, after := _, guard := _ }) (v := ?v38_456) rfl (by kernel_rfl) (by kernel_rfl) (by kernel_rfl) (fun _ _ _ h => h) (Or.inl ⟨by rfl, ?h38_456⟩) hS ?r38_456
                      case h38_456 => intro w0 hw0; obtain ⟨s0, s1, s2, s3, s4, s5, s6, s7, s8⟩ := hw0; go_simp; try with_reducible rfl
                      simp only [Act.put, List.setIfInBounds_toArray, List.set_cons_zero, List.set_cons_succ]
                      refine wpAnyH_done (by kernel_rfl) ?_ _
                      go_wp2_with fail
                      go_roundw
                      case rel => exact ⟨q + 1, by omega, int_eq (by omega), by rw [hMS.out]; rw [Bool.true_or], hGz⟩
                      case measure => simp [intOf]; omega
                    | false =>
                      by_cases c0 : a.f = fo
                      · have e0 : (a.f == fo) = true := by simpa using c0
                        by_cases c1 : a.s = st
                        · have e1 : (a.s == st) = true := by simpa using c1
                          by_cases c2 : a.d = m.d
                          · have e2 : (a.d == m.d) = true := by simpa using c2
                            by_cases c3 : (k : Int) < a.u
                            · have e4 : cntB fo st m k a = verifyB m.ver a.msg a.r a.g := by unfold cntB; rw [decide_eq_true c0, decide_eq_true c1, decide_eq_true c2, decide_eq_true c3, Bool.true_and, Bool.true_and, Bool.true_and, Bool.true_and]
                              have E4 := Lib.hid e4
                              clear e4 c0 c1 c2
                              refine wp_region_held_drew (S := fun w' => w'.cell? ⟨XA, 0, none⟩ = some (.int .i64 a.f) ∧ w'.cell? ⟨XA, 1, none⟩ = some (.int .i64 a.d) ∧ w'.cell? ⟨XA, 2, none⟩ = some (.int .i64 a.s) ∧ w'.cell? ⟨XA, 3, none⟩ = some (.int .i64 a.u) ∧ w'.cell? ⟨XA, 36, none⟩ = some (.int .i64 a.r) ∧ w'.cell? ⟨XA, 37, none⟩ = some (.int .i64 a.g) ∧ w'.cell? ⟨XM, 0, none⟩ = some (.int .i64 m.d) ∧ w'.cell? ⟨XM, 2, none⟩ = some (.int .i64 m.ver) ∧ Gr WD none w') (by kernel_rfl) (qs_all hXA hXMm hXD ha ((Gr.refl WD none).drew)) (fun hS => ?_)
                              refine wpAnyH_take (i := 0) (oi := { dst := some 123, op := _, type := _, pos := _, after := _, guard := _ }) (v := ?v0_476) rfl (by kernel_rfl) (by kernel_rfl) (by kernel_rfl) (fun _ _ _ h => h) (Or.inl ⟨by rfl, ?h0_476⟩) hS ?r0_476
                              case h0_476 => intro w0 hw0; obtain ⟨s0, s1, s2, s3, s4, s5, s6, s7, s8⟩ := hw0; go_simp; try with_reducible rfl
                              simp only [Act.put, List.setIfInBounds_toArray, List.set_cons_zero, List.set_cons_succ]
                              refine wpAnyH_take (i := 1) (oi := { dst := some 124, op := _, type := _, pos := _, after := _, guard := _ }) (v := ?v1_479) rfl (by kernel_rfl) (by kernel_rfl) (by kernel_rfl) (fun _ _ _ h => h) (Or.inl ⟨by rfl, ?h1_479⟩) hS ?r1_479
                              case h1_479 => intro w0 hw0; obtain ⟨s0, s1, s2, s3, s4, s5, s6, s7, s8⟩ := hw0; go_simp; try with_reducible rfl
                              simp only [Act.put, List.setIfInBounds_toArray, List.set_cons_zero, List.set_cons_succ]
                              refine wpAnyH_take (i := 2) (oi := { dst := some 125, op := _, type := _, pos := _, after := _, guard := _ }) (v := ?v2_482) rfl (by kernel_rfl) (by kernel_rfl) (by kernel_rfl) (fun _ _ _ h => h) (Or.inl ⟨by rfl, ?h2_482⟩) hS ?r2_482
                              case h2_482 => intro w0 hw0; obtain ⟨s0, s1, s2, s3, s4, s5, s6, s7, s8⟩ := hw0; go_simp; try with_reducible rfl
                              simp only [Act.put, List.setIfInBounds_toArray, List.set_cons_zero, List.set_cons_succ]
                              refine wpAnyH_take (i := 3) (oi := { dst := some 126, op := _, type := _, pos := _, after := _, guard := _ }) (v := ?v3_485) rfl (by kernel_rfl) (by kernel_rfl) (by kernel_rfl) (fun _ _ _ h => h) (Or.inl ⟨by rfl, ?h3_485⟩) hS ?r3_485
                              case h3_485 => intro w0 hw0; obtain ⟨s0, s1, s2, s3, s4, s5, s6, s7, s8⟩ := hw0; go_simp; try with_reducible rfl
                              simp only [Act.put, List.setIfInBounds_toArray, List.set_cons_zero, List.set_cons_succ]
                              refine wpAnyH_take (i := 4) (oi := { dst := some 127, op := _, type := _, pos := _, after := _, guard := _ }) (v := ?v4_488) rfl (by kernel_rfl) (by kernel_rfl) (by kernel_rfl) (fun _ _ _ h => h) (Or.inl ⟨by rfl, ?h4_488⟩) hS ?r4_488
                              case h4_488 => intro w0 hw0; obtain ⟨s0, s1, s2, s3, s4, s5, s6, s7, s8⟩ := hw0; go_simp; try with_reducible rfl
                              simp only [Act.put, List.setIfInBounds_toArray, List.set_cons_zero, List.set_cons_succ]
                              refine wpAnyH_take (i := 5) (oi := { dst := some 128, op := _, type := _, pos := _, after := _, guard := _ }) (v := ?v5_491) rfl (by kernel_rfl) (by kernel_rfl) (by kernel_rfl) (fun _ _ _ h => h) (Or.inl ⟨by rfl, ?h5_491⟩) hS ?r5_491
                              case h5_491 => intro w0 hw0; obtain ⟨s0, s1, s2, s3, s4, s5, s6, s7, s8⟩ := hw0; go_simp; try with_reducible rfl
                              simp only [Act.put, List.setIfInBounds_toArray, List.set_cons_zero, List.set_cons_succ]
                              refine wpAnyH_take (i := 6) (oi := { dst := some 129, op := _, type := _, pos := _, after := _, guard := _ }) (v := ?v6_494) rfl (by kernel_rfl) (by kernel_rfl) (by kernel_rfl) (fun _ _ _ h => h) (Or.inl ⟨by rfl, ?h6_494⟩) hS ?r6_494
                              case h6_494 => intro w0 hw0; obtain ⟨s0, s1, s2, s3, s4, s5, s6, s7, s8⟩ := hw0; go_simp; try with_reducible rfl
                              simp only [Act.put, List.setIfInBounds_toArray, List.set_cons_zero, List.set_cons_succ]
                              refine wpAnyH_take (i := 7) (oi := { dst := some 130, op := _, type := _, pos := _, after := _, guard := _ }) (v := ?v7_497) rfl (by kernel_rfl) (by kernel_rfl) (by kernel_rfl) (fun _ _ _ h => h) (Or.inl ⟨by rfl, ?h7_497⟩) hS ?r7_497
                              case h7_497 => intro w0 hw0; obtain ⟨s0, s1, s2, s3, s4, s5, s6, s7, s8⟩ := hw0; go_simp; try with_reducible rfl
                              simp only [Act.put, List.setIfInBounds_toArray, List.set_cons_zero, List.set_cons_succ]
                              refine wpAnyH_take (i := 8) (oi := { dst := some 131, op := _, type := _, pos := _, after := _, guard := _ }) (v := ?v8_500) rfl (by kernel_rfl) (by kernel_rfl) (by kernel_rfl) (fun _ _ _ h => h) (Or.inl ⟨by rfl, ?h8_500⟩) hS ?r8_500
                              case h8_500 => intro w0 hw0; obtain ⟨s0, s1, s2, s3, s4, s5, s6, s7, s8⟩ := hw0; go_simp; try with_reducible rfl
                              simp only [Act.put, List.setIfInBounds_toArray, List.set_cons_zero, List.set_cons_succ]
                              refine wpAnyH_take (i := 9) (oi := { dst := some 132, op := _, type := _, pos := _, after := _, guard := _ }) (v := ?v9_503) rfl (by kernel_rfl) (by kernel_rfl) (by kernel_rfl) (fun _ _ _ h => h) (Or.inl ⟨by rfl, ?h9_503⟩) hS ?r9_503
                              case h9_503 => intro w0 hw0; obtain ⟨s0, s1, s2, s3, s4, s5, s6, s7, s8⟩ := hw0; go_simp; try with_reducible rfl
                              simp only [Act.put, List.setIfInBounds_toArray, List.set_cons_zero, List.set_cons_succ]
                              refine wpAnyH_take (i := 10) (oi := { dst := some 133, op := _, type := _, pos := _, after := _, guard := _ }) (v := ?v10_506) rfl (by kernel_rfl) (by kernel_rfl) (by kernel_rfl) (fun _ _ _ h => h) (Or.inl ⟨by rfl, ?h10_506⟩) hS ?r10_506
                              case h10_506 => intro w0 hw0; obtain ⟨s0, s1, s2, s3, s4, s5, s6, s7, s8⟩ := hw0; go_simp; try with_reducible rfl
                              simp only [Act.put, List.setIfInBounds_toArray, List.set_cons_zero, List.set_cons_succ]
                              refine wpAnyH_take (i := 11) (oi := { dst := some 134, op := _, type := _, pos := _, after := _, guard := _ }) (v := ?v11_509) rfl (by kernel_rfl) (by kernel_rfl) (by kernel_rfl) (fun _ _ _ h => h) (Or.inl ⟨by rfl, ?h11_509⟩) hS ?r11_509
                              case h11_509 => intro w0 hw0; obtain ⟨s0, s1, s2, s3, s4, s5, s6, s7, s8⟩ := hw0; go_simp; try with_reducible rfl
                              simp only [Act.put, List.setIfInBounds_toArray, List.set_cons_zero, List.set_cons_succ]
                              refine wpAnyH_take (i := 12) (oi := { dst := some 135, op := _, type := _, pos := _, after := _, guard := _ }) (v := ?v12_512) rfl (by kernel_rfl) (by kernel_rfl) (by kernel_rfl) (fun _ _ _ h => h) (Or.inl ⟨by rfl, ?h12_512⟩) hS ?r12_512
                              case h12_512 => intro w0 hw0; obtain ⟨s0, s1, s2, s3, s4, s5, s6, s7, s8⟩ := hw0; go_simp; try with_reducible rfl
                              simp only [Act.put, List.setIfInBounds_toArray, List.set_cons_zero, List.set_cons_succ]
                              refine wpAnyH_take (i := 13) (oi := { dst := some 136, op := _, type := _, pos := _, after := _, guard := _ }) (v := ?v13_515) rfl (by kernel_rfl) (by kernel_rfl) (by kernel_rfl) (fun _ _ _ h => h) (Or.inl ⟨by rfl, ?h13_515⟩) hS ?r13_515
                              case h13_515 => intro w0 hw0; obtain ⟨s0, s1, s2, s3, s4, s5, s6, s7, s8⟩ := hw0; go_simp; try with_reducible rfl
                              simp only [Act.put, List.setIfInBounds_toArray, List.set_cons_zero, List.set_cons_succ]
                              refine wpAnyH_take (i := 14) (oi := { dst := some 137, op := _, type := _, pos := _, after := _, guard := _ }) (v := ?v14_518) rfl (by kernel_rfl) (by kernel_rfl) (by kernel_rfl) (fun _ _ _ h => h) (Or.inl ⟨by rfl, ?h14_518⟩) hS ?r14_518
                              case h14_518 => intro w0 hw0; obtain ⟨s0, s1, s2, s3, s4, s5, s6, s7, s8⟩ := hw0; go_simp; try with_reducible rfl
                              simp only [Act.put, List.setIfInBounds_toArray, List.set_cons_zero, List.set_cons_succ]
                              refine wpAnyH_take (i := 15) (oi := { dst := some 138, op := _, type := _, pos := _, after := _, guard := _ }) (v := ?v15_521) rfl (by kernel_rfl) (by kernel_rfl) (by kernel_rfl) (fun _ _ _ h => h) (Or.inl ⟨by rfl, ?h15_521⟩) hS ?r15_521
                              case h15_521 => intro w0 hw0; obtain ⟨s0, s1, s2, s3, s4, s5, s6, s7, s8⟩ := hw0; go_simp; try with_reducible rfl
                              simp only [Act.put, List.setIfInBounds_toArray, List.set_cons_zero, List.set_cons_succ]
                              refine wpAnyH_take (i := 16) (oi := { dst := some 139, op := _, type := _, pos := _, after := _, guard := _ }) (v := ?v16_524) rfl (by kernel_rfl) (by kernel_rfl) (by kernel_rfl) (fun _ _ _ h => h) (Or.inl ⟨by rfl, ?h16_524⟩) hS ?r16_524
                              case h16_524 => intro w0 hw0; obtain ⟨s0, s1, s2, s3, s4, s5, s6, s7, s8⟩ := hw0; go_simp; try with_reducible rfl
                              simp only [Act.put, List.setIfInBounds_toArray, List.set_cons_zero, List.set_cons_succ]
                              refine wpAnyH_take (i := 17) (oi := { dst := some 140, op := _, type := _, pos := _, after := _, guard := _ }) (v := ?v17_527) rfl (by kernel_rfl) (by kernel_rfl) (by kernel_rfl) (fun _ _ _ h => h) (Or.inl ⟨by rfl, ?h17_527⟩) hS ?r17_527
                              case h17_527 => intro w0 hw0; obtain ⟨s0, s1, s2, s3, s4, s5, s6, s7, s8⟩ := hw0; go_simp; try with_reducible rfl
                              simp only [Act.put, List.setIfInBounds_toArray, List.set_cons_zero, List.set_cons_succ]
                              refine wpAnyH_take (i := 18) (oi := { dst := some 141, op := _, type := _, pos := _, after := _, guard := _ }) (v := ?v18_530) rfl (by kernel_rfl) (by kernel_rfl) (by kernel_rfl) (fun _ _ _ h => h) (Or.inl ⟨by rfl, ?h18_530⟩) hS ?r18_530
                              case h18_530 => intro w0 hw0; obtain ⟨s0, s1, s2, s3, s4, s5, s6, s7, s8⟩ := hw0; go_simp; try with_reducible rfl
                              simp only [Act.put, List.setIfInBounds_toArray, List.set_cons_zero, List.set_cons_succ]
                              refine wpAnyH_take (i := 19) (oi := { dst := some 142, op := _, type := _, pos := _, after := _, guard := _ }) (v := ?v19_533) rfl (by kernel_rfl) (by kernel_rfl) (by kernel_rfl) (fun _ _ _ h => h) (Or.inl ⟨by rfl, ?h19_533⟩) hS ?r19_533
                              case h19_533 => intro w0 hw0; obtain ⟨s0, s1, s2, s3, s4, s5, s6, s7, s8⟩ := hw0; go_simp; try with_reducible rfl
                              simp only [Act.put, List.setIfInBounds_toArray, List.set_cons_zero, List.set_cons_succ]
                              refine wpAnyH_take (i := 20) (oi := { dst := some 143, op := _, type := _, pos := _, after := _, guard := _ }) (v := ?v20_536) rfl (by kernel_rfl) (by kernel_rfl) (by kernel_rfl) (fun _ _ _ h => h) (Or.inl ⟨by rfl, ?h20_536⟩) hS ?r20_536
                              case h20_536 => intro w0 hw0; obtain ⟨s0, s1, s2, s3, s4, s5, s6, s7, s8⟩ := hw0; go_simp; try with_reducible rfl
                              simp only [Act.put, List.setIfInBounds_toArray, List.set_cons_zero, List.set_cons_succ]
                              refine wpAnyH_take (i := 21) (oi := { dst := some 144, op := _, type := _, pos := _, after := _, guard := _ }) (v := ?v21_539) rfl (by kernel_rfl) (by kernel_rfl) (by kernel_rfl) (fun _ _ _ h => h) (Or.inl ⟨by rfl, ?h21_539⟩) hS ?r21_539
                              case h21_539 => intro w0 hw0; obtain ⟨s0, s1, s2, s3, s4, s5, s6, s7, s8⟩ := hw0; go_simp; try with_reducible rfl
                              simp only [Act.put, List.setIfInBounds_toArray, List.set_cons_zero, List.set_cons_succ]
                              refine wpAnyH_take (i := 22) (oi := { dst := some 145, op := _, type := _, pos := _, after := _, guard := _ }) (v := ?v22_542) rfl (by kernel_rfl) (by kernel_rfl) (by kernel_rfl) (fun _ _ _ h => h) (Or.inl ⟨by rfl, ?h22_542⟩) hS ?r22_542
                              case h22_542 => intro w0 hw0; obtain ⟨s0, s1, s2, s3, s4, s5, s6, s7, s8⟩ := hw0; go_simp; try with_reducible rfl
                              simp only [Act.put, List.setIfInBounds_toArray, List.set_cons_zero, List.set_cons_succ]
                              refine wpAnyH_take (i := 23) (oi := { dst := some 146, op := _, type := _, pos := _, after := _, guard := _ }) (v := ?v23_545) rfl (by kernel_rfl) (by kernel_rfl) (by kernel_rfl) (fun _ _ _ h => h) (Or.inl ⟨by rfl, ?h23_545⟩) hS ?r23_545
                              case h23_545 => intro w0 hw0; obtain ⟨s0, s1, s2, s3, s4, s5, s6, s7, s8⟩ := hw0; go_simp; try with_reducible rfl
                              simp only [Act.put, List.setIfInBounds_toArray, List.set_cons_zero, List.set_cons_succ]
                              refine wpAnyH_take (i := 24) (oi := { dst := some 147, op := _, type := _, pos := _, after := _, guard := _ }) (v := ?v24_548) rfl (by kernel_rfl) (by kernel_rfl) (by kernel_rfl) (fun _ _ _ h => h) (Or.inl ⟨by rfl, ?h24_548⟩) hS ?r24_548
                              case h24_548 => intro w0 hw0; obtain ⟨s0, s1, s2, s3, s4, s5, s6, s7, s8⟩ := hw0; go_simp; try with_reducible rfl
                              simp only [Act.put, List.setIfInBounds_toArray, List.set_cons_zero, List.set_cons_succ]
                              refine wpAnyH_take (i := 25) (oi := { dst := some 148, op := _, type := _, pos := _, after := _, guard := _ }) (v := ?v25_551) rfl (by kernel_rfl) (by kernel_rfl) (by kernel_rfl) (fun _ _ _ h => h) (Or.inl ⟨by rfl, ?h25_551⟩) hS ?r25_551
                              case h25_551 => intro w0 hw0; obtain ⟨s0, s1, s2, s3, s4, s5, s6, s7, s8⟩ := hw0; go_simp; try with_reducible rfl
                              simp only [Act.put, List.setIfInBounds_toArray, List.set_cons_zero, List.set_cons_succ]
                              refine wpAnyH_take (i := 26) (oi := { dst := some 149, op := _, type := _, pos := _, after := _, guard := _ }) (v := ?v26_554) rfl (by kernel_rfl) (by kernel_rfl) (by kernel_rfl) (fun _ _ _ h => h) (Or.inl ⟨by rfl, ?h26_554⟩) hS ?r26_554
                              case h26_554 => intro w0 hw0; obtain ⟨s0, s1, s2, s3, s4, s5, s6, s7, s8⟩ := hw0; go_simp; try with_reducible rfl
                              simp only [Act.put, List.setIfInBounds_toArray, List.set_cons_zero, List.set_cons_succ]
                              refine wpAnyH_take (i := 27) (oi := { dst := some 150, op := _, type := _, pos := _, after := _, guard := _ }) (v := ?v27_557) rfl (by kernel_rfl) (by kernel_rfl) (by kernel_rfl) (fun _ _ _ h => h) (Or.inl ⟨by rfl, ?h27_557⟩) hS ?r27_557
                              case h27_557 => intro w0 hw0; obtain ⟨s0, s1, s2, s3, s4, s5, s6, s7, s8⟩ := hw0; go_simp; try with_reducible rfl
                              simp only [Act.put, List.setIfInBounds_toArray, List.set_cons_zero, List.set_cons_succ]
                              refine wpAnyH_take (i := 28) (oi := { dst := some 151, op := _, type := _, pos := _, after := _, guard := _ }) (v := ?v28_560) rfl (by kernel_rfl) (by kernel_rfl) (by kernel_rfl) (fun _ _ _ h => h) (Or.inl ⟨by rfl, ?h28_560⟩) hS ?r28_560
                              case h28_560 => intro w0 hw0; obtain ⟨s0, s1, s2, s3, s4, s5, s6, s7, s8⟩ := hw0; go_simp; try with_reducible rfl
                              simp only [Act.put, List.setIfInBounds_toArray, List.set_cons_zero, List.set_cons_succ]
                              refine wpAnyH_take (i := 29) (oi := { dst := some 152, op := _, type := _, pos := _, after := _, guard := _ }) (v := ?v29_563) rfl (by kernel_rfl) (by kernel_rfl) (by kernel_rfl) (fun _ _ _ h => h) (Or.inl ⟨by rfl, ?h29_563⟩) hS ?r29_563
                              case h29_563 => intro w0 hw0; obtain ⟨s0, s1, s2, s3, s4, s5, s6, s7, s8⟩ := hw0; go_simp; try with_reducible rfl
                              simp only [Act.put, List.setIfInBounds_toArray, List.set_cons_zero, List.set_cons_succ]
                              refine wpAnyH_take (i := 30) (oi := { dst := some 153, op := _, type := _, pos := _, after := _, guard := _ }) (v := ?v30_566) rfl (by kernel_rfl) (by kernel_rfl) (by kernel_rfl) (fun _ _ _ h => h) (Or.inl ⟨by rfl, ?h30_566⟩) hS ?r30_566
                              case h30_566 => intro w0 hw0; obtain ⟨s0, s1, s2, s3, s4, s5, s6, s7, s8⟩ := hw0; go_simp; try with_reducible rfl
                              simp only [Act.put, List.setIfInBounds_toArray, List.set_cons_zero, List.set_cons_succ]
                              refine wpAnyH_take (i := 31) (oi := { dst := some 154, op := _, type := _, pos := _, after := _, guard := _ }) (v := ?v31_569) rfl (by kernel_rfl) (by kernel_rfl) (by kernel_rfl) (fun _ _ _ h => h) (Or.inl ⟨by rfl, ?h31_569⟩) hS ?r31_569
                              case h31_569 => intro w0 hw0; obtain ⟨s0, s1, s2, s3, s4, s5, s6, s7, s8⟩ := hw0; go_simp; try with_reducible rfl
                              simp only [Act.put, List.setIfInBounds_toArray, List.set_cons_zero, List.set_cons_succ]
                              refine wpAnyH_take (i := 32) (oi := { dst := some 155, op := _, type := _, pos := _, after := _, guard := _ }) (v := ?v32_572) rfl (by kernel_rfl) (by kernel_rfl) (by kernel_rfl) (fun _ _ _ h => h) (Or.inl ⟨by rfl, ?h32_572⟩) hS ?r32_572
                              case h32_572 => intro w0 hw0; obtain ⟨s0, s1, s2, s3, s4, s5, s6, s7, s8⟩ := hw0; go_simp; try with_reducible rfl
                              simp only [Act.put, List.setIfInBounds_toArray, List.set_cons_zero, List.set_cons_succ]
                              refine wpAnyH_take (i := 33) (oi := { dst := some 156, op := _, type := _, pos := _, after := _, guard := _ }) (v := ?v33_575) rfl (by kernel_rfl) (by kernel_rfl) (by kernel_rfl) (fun _ _ _ h => h) (Or.inl ⟨by rfl, ?h33_575⟩) hS ?r33_575
                              case h33_575 => intro w0 hw0; obtain ⟨s0, s1, s2, s3, s4, s5, s6, s7, s8⟩ := hw0; go_simp; try with_reducible rfl
                              simp only [Act.put, List.setIfInBounds_toArray, List.set_cons_zero, List.set_cons_succ]
                              refine wpAnyH_take (i := 34) (oi := { dst := some 157, op := _, type := _, pos := _, after := _, guard := _ }) (v := ?v34_578) rfl (by kernel_rfl) (by kernel_rfl) (by kernel_rfl) (fun _ _ _ h => h) (Or.inl ⟨by rfl, ?h34_578⟩) hS ?r34_578
                              case h34_578 => intro w0 hw0; obtain ⟨s0, s1, s2, s3, s4, s5, s6, s7, s8⟩ := hw0; go_simp; try with_reducible rfl
                              simp only [Act.put, List.setIfInBounds_toArray, List.set_cons_zero, List.set_cons_succ]
                              refine wpAnyH_ready (rs := [35]) (by kernel_rfl) (by simp) ?_
                              refine AllReadyH.cons (o := { dst := some 158, op := _, type := _, pos := _, after := _, guard := _ }) rfl (fun K hK' => ?_) AllReadyH.nil
                              rw [if_pos (by rfl)]
                              go_simp
                              refine (hVf _ (Gr.refl _ _).drew).mono ?_
                              rintro e w9 ⟨rfl, hG9⟩
                              refine hK'.out _ _ (qs_all hXA hXMm hXD ha ((Gr.refl _ none).drew.trans hG9)) (fun hS2 => ?_)
                              clear hK' K hS
                              refine wpAnyH_take (i := 36) (oi := { dst := some 159, op := _, type := _, pos := _, after := _, guard := _ }) (v := ?v36_589) rfl (by kernel_rfl) (by kernel_rfl) (by kernel_rfl) (fun _ _ _ h => h) (Or.inl ⟨by rfl, ?h36_589⟩) hS2 ?r36_589
                              case h36_589 => intro w0 hw0; obtain ⟨s0, s1, s2, s3, s4, s5, s6, s7, s8⟩ := hw0; go_simp; try with_reducible rfl
                              simp only [Act.put, List.setIfInBounds_toArray, List.set_cons_zero, List.set_cons_succ]
                              refine wpAnyH_take (i := 37) (oi := { dst := some 160, op := _, type := _, pos := _, after := _, guard := _ }) (v := ?v37_592) rfl (by kernel_rfl) (by kernel_rfl) (by kernel_rfl) (fun _ _ _ h => h) (Or.inl ⟨by rfl, ?h37_592⟩) hS2 ?r37_592
                              case h37_592 => intro w0 hw0; obtain ⟨s0, s1, s2, s3, s4, s5, s6, s7, s8⟩ := hw0; go_simp; try with_reducible rfl
                              simp only [Act.put, List.setIfInBounds_toArray, List.set_cons_zero, List.set_cons_succ]
                              refine wpAnyH_take (i := 38) (oi := { dst := some 18, op := _, type := _, pos := _, after := _, guard := _ }) (v := ?v38_595) rfl (by kernel_rfl) (by kernel_rfl) (by kernel_rfl) (fun _ _ _ h => h) (Or.inl ⟨by rfl, ?h38_595⟩) hS2 ?r38_595
                              case h38_595 => intro w0 hw0; obtain ⟨s0, s1, s2, s3, s4, s5, s6, s7, s8⟩ := hw0; go_simp; try with_reducible rfl
                              simp only [Act.put, List.setIfInBounds_toArray, List.set_cons_zero, List.set_cons_succ]
                              refine wpAnyH_done (by kernel_rfl) ?_ _
                              have hGz2 := hGz.trans hG9
                              clear hGz
                              have hGz := hGz2
                              go_wp2_with fail
                              go_roundw
                              case rel => exact ⟨q + 1, by omega, int_eq (by omega), by rw [hMS.out]; rw [E4.out, Bool.false_or], hGz⟩
                              case measure => simp [intOf]; omega
                            · have e4 : cntB fo st m k a = false := by unfold cntB; rw [decide_eq_false c3]; simp
                              have E4 := Lib.hid e4
                              clear e4 c0 c1 c2
                              refine wp_region_held_drew (S := fun w' => w'.cell? ⟨XA, 0, none⟩ = some (.int .i64 a.f) ∧ w'.cell? ⟨XA, 1, none⟩ = some (.int .i64 a.d) ∧ w'.cell? ⟨XA, 2, none⟩ = some (.int .i64 a.s) ∧ w'.cell? ⟨XA, 3, none⟩ = some (.int .i64 a.u) ∧ w'.cell? ⟨XA, 36, none⟩ = some (.int .i64 a.r) ∧ w'.cell? ⟨XA, 37, none⟩ = some (.int .i64 a.g) ∧ w'.cell? ⟨XM, 0, none⟩ = some (.int .i64 m.d) ∧ w'.cell? ⟨XM, 2, none⟩ = some (.int .i64 m.ver) ∧ Gr WD none w') (by kernel_rfl) (qs_all hXA hXMm hXD ha ((Gr.refl WD none).drew)) (fun hS => ?_)
                              refine wpAnyH_take (i := 0) (oi := { dst := some 123, op := _, type := _, pos := _, after := _, guard := _ }) (v := ?v0_610) rfl (by kernel_rfl) (by kernel_rfl) (by kernel_rfl) (fun _ _ _ h => h) (Or.inl ⟨by rfl, ?h0_610⟩) hS ?r0_610
                              case h0_610 => intro w0 hw0; obtain ⟨s0, s1, s2, s3, s4, s5, s6, s7, s8⟩ := hw0; go_simp; try with_reducible rfl
                              simp only [Act.put, List.setIfInBounds_toArray, List.set_cons_zero, List.set_cons_succ]
                              refine wpAnyH_take (i := 1) (oi := { dst := some 124, op := _, type := _, pos := _, after := _, guard := _ }) (v := ?v1_613) rfl (by kernel_rfl) (by kernel_rfl) (by kernel_rfl) (fun _ _ _ h => h) (Or.inl ⟨by rfl, ?h1_613⟩) hS ?r1_613
                              case h1_613 => intro w0 hw0; obtain ⟨s0, s1, s2, s3, s4, s5, s6, s7, s8⟩ := hw0; go_simp; try with_reducible rfl
                              simp only [Act.put, List.setIfInBounds_toArray, List.set_cons_zero, List.set_cons_succ]
                              refine wpAnyH_take (i := 2) (oi := { dst := some 125, op := _, type := _, pos := _, after := _, guard := _ }) (v := ?v2_616) rfl (by kernel_rfl) (by kernel_rfl) (by kernel_rfl) (fun _ _ _ h => h) (Or.inl ⟨by rfl, ?h2_616⟩) hS ?r2_616
                              case h2_616 => intro w0 hw0; obtain ⟨s0, s1, s2, s3, s4, s5, s6, s7, s8⟩ := hw0; go_simp; try with_reducible rfl
                              simp only [Act.put, List.setIfInBounds_toArray, List.set_cons_zero, List.set_cons_succ]
                              refine wpAnyH_take (i := 3) (oi := { dst := some 126, op := _, type := _, pos := _, after := _, guard := _ }) (v := ?v3_619) rfl (by kernel_rfl) (by kernel_rfl) (by kernel_rfl) (fun _ _ _ h => h) (Or.inl ⟨by rfl, ?h3_619⟩) hS ?r3_619
                              case h3_619 => intro w0 hw0; obtain ⟨s0, s1, s2, s3, s4, s5, s6, s7, s8⟩ := hw0; go_simp; try with_reducible rfl
                              simp only [Act.put, List.setIfInBounds_toArray, List.set_cons_zero, List.set_cons_succ]
                              refine wpAnyH_take (i := 4) (oi := { dst := some 127, op := _, type := _, pos := _, after := _, guard := _ }) (v := ?v4_622) rfl (by kernel_rfl) (by kernel_rfl) (by kernel_rfl) (fun _ _ _ h => h) (Or.inl ⟨by rfl, ?h4_622⟩) hS ?r4_622
                              case h4_622 => intro w0 hw0; obtain ⟨s0, s1, s2, s3, s4, s5, s6, s7, s8⟩ := hw0; go_simp; try with_reducible rfl
                              simp only [Act.put, List.setIfInBounds_toArray, List.set_cons_zero, List.set_cons_succ]
                              refine wpAnyH_take (i := 5) (oi := { dst := some 128, op := _, type := _, pos := _, after := _, guard := _ }) (v := ?v5_625) rfl (by kernel_rfl) (by kernel_rfl) (by kernel_rfl) (fun _ _ _ h => h) (Or.inl ⟨by rfl, ?h5_625⟩) hS ?r5_625
                              case h5_625 => intro w0 hw0; obtain ⟨s0, s1, s2, s3, s4, s5, s6, s7, s8⟩ := hw0; go_simp; try with_reducible rfl
                              simp only [Act.put, List.setIfInBounds_toArray, List.set_cons_zero, List.set_cons_succ]
                              refine wpAnyH_take (i := 6) (oi := { dst := some 129, op := _, type := _, pos := _, after := _, guard := _ }) (v := ?v6_628) rfl (by kernel_rfl) (by kernel_rfl) (by kernel_rfl) (fun _ _ _ h => h) (Or.inl ⟨by rfl, ?h6_628⟩) hS ?r6_628
                              case h6_628 => intro w0 hw0; obtain ⟨s0, s1, s2, s3, s4, s5, s6, s7, s8⟩ := hw0; go_simp; try with_reducible rfl
                              simp only [Act.put, List.setIfInBounds_toArray, List.set_cons_zero, List.set_cons_succ]
                              refine wpAnyH_take (i := 7) (oi := { dst := some 130, op := _, type := _, pos := _, after := _, guard := _ }) (v := ?v7_631) rfl (by kernel_rfl) (by kernel_rfl) (by kernel_rfl) (fun _ _ _ h => h) (Or.inl ⟨by rfl, ?h7_631⟩) hS ?r7_631
                              case h7_631 => intro w0 hw0; obtain ⟨s0, s1, s2, s3, s4, s5, s6, s7, s8⟩ := hw0; go_simp; try with_reducible rfl
                              simp only [Act.put, List.setIfInBounds_toArray, List.set_cons_zero, List.set_cons_succ]
                              refine wpAnyH_take (i := 8) (oi := { dst := some 131, op := _, type := _, pos := _, after := _, guard := _ }) (v := ?v8_634) rfl (by kernel_rfl) (by kernel_rfl) (by kernel_rfl) (fun _ _ _ h => h) (Or.inl ⟨by rfl, ?h8_634⟩) hS ?r8_634
                              case h8_634 => intro w0 hw0; obtain ⟨s0, s1, s2, s3, s4, s5, s6, s7, s8⟩ := hw0; go_simp; try with_reducible rfl
                              simp only [Act.put, List.setIfInBounds_toArray, List.set_cons_zero, List.set_cons_succ]
                              refine wpAnyH_take (i := 9) (oi := { dst := some 132, op := _, type := _, pos := _, after := _, guard := _ }) (v := ?v9_637) rfl (by kernel_rfl) (by kernel_rfl) (by kernel_rfl) (fun _ _ _ h => h) (Or.inl ⟨by rfl, ?h9_637⟩) hS ?r9_637
                              case h9_637 => intro w0 hw0; obtain ⟨s0, s1, s2, s3, s4, s5, s6, s7, s8⟩ := hw0; go_simp; try with_reducible rfl
                              simp only [Act.put, List.setIfInBounds_toArray, List.set_cons_zero, List.set_cons_succ]
                              refine wpAnyH_take (i := 10) (oi := { dst := some 133, op := _, type := _, pos := _, after := _, guard := _ }) (v := ?v10_640) rfl (by kernel_rfl) (by kernel_rfl) (by kernel_rfl) (fun _ _ _ h => h) (Or.inl ⟨by rfl, ?h10_640⟩) hS ?r10_640
                              case h10_640 => intro w0 hw0; obtain ⟨s0, s1, s2, s3, s4, s5, s6, s7, s8⟩ := hw0; go_simp; try with_reducible rfl
                              simp only [Act.put, List.setIfInBounds_toArray, List.set_cons_zero, List.set_cons_succ]
                              refine wpAnyH_take (i := 11) (oi := { dst := some 134, op := _, type := _, pos := _, after := _, guard := _ }) (v := ?v11_643) rfl (by kernel_rfl) (by kernel_rfl) (by kernel_rfl) (fun _ _ _ h => h) (Or.inl ⟨by rfl, ?h11_643⟩) hS ?r11_643
                              case h11_643 => intro w0 hw0; obtain ⟨s0, s1, s2, s3, s4, s5, s6, s7, s8⟩ := hw0; go_simp; try with_reducible rfl
                              simp only [Act.put, List.setIfInBounds_toArray, List.set_cons_zero, List.set_cons_succ]
                              refine wpAnyH_take (i := 12) (oi := { dst := some 135, op := _, type := _, pos := _, after := _, guard := _ }) (v := ?v12_646) rfl (by kernel_rfl) (by kernel_rfl) (by kernel_rfl) (fun _ _ _ h => h) (Or.inl ⟨by rfl, ?h12_646⟩) hS ?r12_646
                              case h12_646 => intro w0 hw0; obtain ⟨s0, s1, s2, s3, s4, s5, s6, s7, s8⟩ := hw0; go_simp; try with_reducible rfl
                              simp only [Act.put, List.setIfInBounds_toArray, List.set_cons_zero, List.set_cons_succ]
                              refine wpAnyH_take (i := 13) (oi := { dst := some 136, op := _, type := _, pos := _, after := _, guard := _ }) (v := ?v13_649) rfl (by kernel_rfl) (by kernel_rfl) (by kernel_rfl) (fun _ _ _ h => h) (Or.inl ⟨by rfl, ?h13_649⟩) hS ?r13_649
                              case h13_649 => intro w0 hw0; obtain ⟨s0, s1, s2, s3, s4, s5, s6, s7, s8⟩ := hw0; go_simp; try with_reducible rfl
                              simp only [Act.put, List.setIfInBounds_toArray, List.set_cons_zero, List.set_cons_succ]
                              refine wpAnyH_take (i := 14) (oi := { dst := some 137, op := _, type := _, pos := _, after := _, guard := _ }) (v := ?v14_652) rfl (by kernel_rfl) (by kernel_rfl) (by kernel_rfl) (fun _ _ _ h => h) (Or.inl ⟨by rfl, ?h14_652⟩) hS ?r14_652
                              case h14_652 => intro w0 hw0; obtain ⟨s0, s1, s2, s3, s4, s5, s6, s7, s8⟩ := hw0; go_simp; try with_reducible rfl
                              simp only [Act.put, List.setIfInBounds_toArray, List.set_cons_zero, List.set_cons_succ]
                              refine wpAnyH_take (i := 15) (oi := { dst := some 138, op := _, type := _, pos := _, after := _, guard := _ }) (v := ?v15_655) rfl (by kernel_rfl) (by kernel_rfl) (by kernel_rfl) (fun _ _ _ h => h) (Or.inl ⟨by rfl, ?h15_655⟩) hS ?r15_655
                              case h15_655 => intro w0 hw0; obtain ⟨s0, s1, s2, s3, s4, s5, s6, s7, s8⟩ := hw0; go_simp; try with_reducible rfl
                              simp only [Act.put, List.setIfInBounds_toArray, List.set_cons_zero, List.set_cons_succ]
                              refine wpAnyH_take (i := 16) (oi := { dst := some 139, op := _, type := _, pos := _, after := _, guard := _ }) (v := ?v16_658) rfl (by kernel_rfl) (by kernel_rfl) (by kernel_rfl) (fun _ _ _ h => h) (Or.inl ⟨by rfl, ?h16_658⟩) hS ?r16_658
                              case h16_658 => intro w0 hw0; obtain ⟨s0, s1, s2, s3, s4, s5, s6, s7, s8⟩ := hw0; go_simp; try with_reducible rfl
                              simp only [Act.put, List.setIfInBounds_toArray, List.set_cons_zero, List.set_cons_succ]
                              refine wpAnyH_take (i := 17) (oi := { dst := some 140, op := _, type := _, pos := _, after := _, guard := _ }) (v := ?v17_661) rfl (by kernel_rfl) (by kernel_rfl) (by kernel_rfl) (fun _ _ _ h => h) (Or.inl ⟨by rfl, ?h17_661⟩) hS ?r17_661
                              case h17_661 => intro w0 hw0; obtain ⟨s0, s1, s2, s3, s4, s5, s6, s7, s8⟩ := hw0; go_simp; try with_reducible rfl
                              simp only [Act.put, List.setIfInBounds_toArray, List.set_cons_zero, List.set_cons_succ]
                              refine wpAnyH_take (i := 18) (oi := { dst := some 141, op := _, type := _, pos := _, after := _, guard := _ }) (v := ?v18_664) rfl (by kernel_rfl) (by kernel_rfl) (by kernel_rfl) (fun _ _ _ h => h) (Or.inl ⟨by rfl, ?h18_664⟩) hS ?r18_664
                              case h18_664 => intro w0 hw0; obtain ⟨s0, s1, s2, s3, s4, s5, s6, s7, s8⟩ := hw0; go_simp; try with_reducible rfl
                              simp only [Act.put, List.setIfInBounds_toArray, List.set_cons_zero, List.set_cons_succ]
                              refine wpAnyH_take (i := 19) (oi := { dst := some 142, op := _, type := _, pos := _, after := _, guard := _ }) (v := ?v19_667) rfl (by kernel_rfl) (by kernel_rfl) (by kernel_rfl) (fun _ _ _ h => h) (Or.inl ⟨by rfl, ?h19_667⟩) hS ?r19_667
                              case h19_667 => intro w0 hw0; obtain ⟨s0, s1, s2, s3, s4, s5, s6, s7, s8⟩ := hw0; go_simp; try with_reducible rfl
                              simp only [Act.put, List.setIfInBounds_toArray, List.set_cons_zero, List.set_cons_succ]
                              refine wpAnyH_take (i := 20) (oi := { dst := some 143, op := _, type := _, pos := _, after := _, guard := _ }) (v := ?v20_670) rfl (by kernel_rfl) (by kernel_rfl) (by kernel_rfl) (fun _ _ _ h => h) (Or.inl ⟨by rfl, ?h20_670⟩) hS ?r20_670
                              case h20_670 => intro w0 hw0; obtain ⟨s0, s1, s2, s3, s4, s5, s6, s7, s8⟩ := hw0; go_simp; try with_reducible rfl
                              simp only [Act.put, List.setIfInBounds_toArray, List.set_cons_zero, List.set_cons_succ]
                              refine wpAnyH_take (i := 21) (oi := { dst := some 144, op := _, type := _, pos := _, after := _, guard := _ }) (v := ?v21_673) rfl (by kernel_rfl) (by kernel_rfl) (by kernel_rfl) (fun _ _ _ h => h) (Or.inl ⟨by rfl, ?h21_673⟩) hS ?r21_673
                              case h21_673 => intro w0 hw0; obtain ⟨s0, s1, s2, s3, s4, s5, s6, s7, s8⟩ := hw0; go_simp; try with_reducible rfl
                              simp only [Act.put, List.setIfInBounds_toArray, List.set_cons_zero, List.set_cons_succ]
                              refine wpAnyH_take (i := 22) (oi := { dst := some 145, op := _, type := _, pos := _, after := _, guard := _ }) (v := ?v22_676) rfl (by kernel_rfl) (by kernel_rfl) (by kernel_rfl) (fun _ _ _ h => h) (Or.inl ⟨by rfl, ?h22_676⟩) hS ?r22_676
                              case h22_676 => intro w0 hw0; obtain ⟨s0, s1, s2, s3, s4, s5, s6, s7, s8⟩ := hw0; go_simp; try with_reducible rfl
                              simp only [Act.put, List.setIfInBounds_toArray, List.set_cons_zero, List.set_cons_succ]
                              refine wpAnyH_take (i := 23) (oi := { dst := some 146, op := _, type := _, pos := _, after := _, guard := _ }) (v := ?v23_679) rfl (by kernel_rfl) (by kernel_rfl) (by kernel_rfl) (fun _ _ _ h => h) (Or.inl ⟨by rfl, ?h23_679⟩) hS ?r23_679
                              case h23_679 => intro w0 hw0; obtain ⟨s0, s1, s2, s3, s4, s5, s6, s7, s8⟩ := hw0; go_simp; try with_reducible rfl
                              simp only [Act.put, List.setIfInBounds_toArray, List.set_cons_zero, List.set_cons_succ]
                              refine wpAnyH_take (i := 24) (oi := { dst := some 147, op := _, type := _, pos := _, after := _, guard := _ }) (v := ?v24_682) rfl (by kernel_rfl) (by kernel_rfl) (by kernel_rfl) (fun _ _ _ h => h) (Or.inl ⟨by rfl, ?h24_682⟩) hS ?r24_682
                              case h24_682 => intro w0 hw0; obtain ⟨s0, s1, s2, s3, s4, s5, s6, s7, s8⟩ := hw0; go_simp; try with_reducible rfl
                              simp only [Act.put, List.setIfInBounds_toArray, List.set_cons_zero, List.set_cons_succ]
                              refine wpAnyH_take (i := 25) (oi := { dst := some 148, op := _, type := _, pos := _, after := _, guard := _ }) (v := ?v25_685) rfl (by kernel_rfl) (by kernel_rfl) (by kernel_rfl) (fun _ _ _ h => h) (Or.inl ⟨by rfl, ?h25_685⟩) hS ?r25_685
                              case h25_685 => intro w0 hw0; obtain ⟨s0, s1, s2, s3, s4, s5, s6, s7, s8⟩ := hw0; go_simp; try with_reducible rfl
                              simp only [Act.put, List.setIfInBounds_toArray, List.set_cons_zero, List.set_cons_succ]
                              refine wpAnyH_take (i := 26) (oi := { dst := some 149, op := _, type := _, pos := _, after := _, guard := _ }) (v := ?v26_688) rfl (by kernel_rfl) (by kernel_rfl) (by kernel_rfl) (fun _ _ _ h => h) (Or.inl ⟨by rfl, ?h26_688⟩) hS ?r26_688
                              case h26_688 => intro w0 hw0; obtain ⟨s0, s1, s2, s3, s4, s5, s6, s7, s8⟩ := hw0; go_simp; try with_reducible rfl
                              simp only [Act.put, List.setIfInBounds_toArray, List.set_cons_zero, List.set_cons_succ]
                              refine wpAnyH_take (i := 27) (oi := { dst := some 150, op := _, type := _, pos := _, after := _, guard := _ }) (v := ?v27_691) rfl (by kernel_rfl) (by kernel_rfl) (by kernel_rfl) (fun _ _ _ h => h) (Or.inl ⟨by rfl, ?h27_691⟩) hS ?r27_691
                              case h27_691 => intro w0 hw0; obtain ⟨s0, s1, s2, s3, s4, s5, s6, s7, s8⟩ := hw0; go_simp; try with_reducible rfl
                              simp only [Act.put, List.setIfInBounds_toArray, List.set_cons_zero, List.set_cons_succ]
                              refine wpAnyH_take (i := 28) (oi := { dst := some 151, op := _, type := _, pos := _, after := _, guard := _ }) (v := ?v28_694) rfl (by kernel_rfl) (by kernel_rfl) (by kernel_rfl) (fun _ _ _ h => h) (Or.inl ⟨by rfl, ?h28_694⟩) hS ?r28_694
                              case h28_694 => intro w0 hw0; obtain ⟨s0, s1, s2, s3, s4, s5, s6, s7, s8⟩ := hw0; go_simp; try with_reducible rfl
                              simp only [Act.put, List.setIfInBounds_toArray, List.set_cons_zero, List.set_cons_succ]
                              refine wpAnyH_take (i := 29) (oi := { dst := some 152, op := _, type := _, pos := _, after := _, guard := _ }) (v := ?v29_697) rfl (by kernel_rfl) (by kernel_rfl) (by kernel_rfl) (fun _ _ _ h => h) (Or.inl ⟨by rfl, ?h29_697⟩) hS ?r29_697
                              case h29_697 => intro w0 hw0; obtain ⟨s0, s1, s2, s3, s4, s5, s6, s7, s8⟩ := hw0; go_simp; try with_reducible rfl
                              simp only [Act.put, List.setIfInBounds_toArray, List.set_cons_zero, List.set_cons_succ]
                              refine wpAnyH_take (i := 30) (oi := { dst := some 153, op := _, type := _, pos := _, after := _, guard := _ }) (v := undef) rfl (by kernel_rfl) (by kernel_rfl) (by kernel_rfl) (fun _ _ _ h => h) (Or.inr ⟨by rfl, rfl⟩) hS ?r30_700
                              simp only [Act.put, List.setIfInBounds_toArray, List.set_cons_zero, List.set_cons_succ]
                              refine wpAnyH_take (i := 31) (oi := { dst := some 154, op := _, type := _, pos := _, after := _, guard := _ }) (v := undef) rfl (by kernel_rfl) (by kernel_rfl) (by kernel_rfl) (fun _ _ _ h => h) (Or.inr ⟨by rfl, rfl⟩) hS ?r31_702
                              simp only [Act.put, List.setIfInBounds_toArray, List.set_cons_zero, List.set_cons_succ]
                              refine wpAnyH_take (i := 32) (oi := { dst := some 155, op := _, type := _, pos := _, after := _, guard := _ }) (v := undef) rfl (by kernel_rfl) (by kernel_rfl) (by kernel_rfl) (fun _ _ _ h => h) (Or.inr ⟨by rfl, rfl⟩) hS ?r32_704
                              simp only [Act.put, List.setIfInBounds_toArray, List.set_cons_zero, List.set_cons_succ]
                              refine wpAnyH_take (i := 33) (oi := { dst := some 156, op := _, type := _, pos := _, after := _, guard := _ }) (v := undef) rfl (by kernel_rfl) (by kernel_rfl) (by kernel_rfl) (fun _ _ _ h => h) (Or.inr ⟨by rfl, rfl⟩) hS ?r33_706
                              simp only [Act.put, List.setIfInBounds_toArray, List.set_cons_zero, List.set_cons_succ]
                              refine wpAnyH_take (i := 34) (oi := { dst := some 157, op := _, type := _, pos := _, after := _, guard := _ }) (v := undef) rfl (by kernel_rfl) (by kernel_rfl) (by kernel_rfl) (fun _ _ _ h => h) (Or.inr ⟨by rfl, rfl⟩) hS ?r34_708
                              simp only [Act.put, List.setIfInBounds_toArray, List.set_cons_zero, List.set_cons_succ]
                              refine wpAnyH_take (i := 35) (oi := { dst := some 158, op := _, type := _, pos := _, after := _, guard := _ }) (v := undef) rfl (by kernel_rfl) (by kernel_rfl) (by kernel_rfl) (fun _ _ _ h => h) (Or.inr ⟨by rfl, rfl⟩) hS ?r35_710
                              simp only [Act.put, List.setIfInBounds_toArray, List.set_cons_zero, List.set_cons_succ]
                              refine wpAnyH_take (i := 36) (oi := { dst := some 159, op := _, type := _, pos := _, after := _, guard := _ }) (v := ?v36_712) rfl (by kernel_rfl) (by kernel_rfl) (by kernel_rfl) (fun _ _ _ h => h) (Or.inl ⟨by rfl, ?h36_712⟩) hS ?r36_712
                              case h36_712 => intro w0 hw0; obtain ⟨s0, s1, s2, s3, s4, s5, s6, s7, s8⟩ := hw0; go_simp; try with_reducible rfl
                              simp only [Act.put, List.setIfInBounds_toArray, List.set_cons_zero, List.set_cons_succ]
                              refine wpAnyH_take (i := 37) (oi := { dst := some 160, op := _, type := _, pos := _, after := _, guard := _ }) (v := ?v37_715) rfl (by kernel_rfl) (by kernel_rfl) (by kernel_rfl) (fun _ _ _ h => h) (Or.inl ⟨by rfl, ?h37_715⟩) hS ?r37_715
                              case h37_715 => intro w0 hw0; obtain ⟨s0, s1, s2, s3, s4, s5, s6, s7, s8⟩ := hw0; go_simp; try with_reducible rfl
                              simp only [Act.put, List.setIfInBounds_toArray, List.set_cons_zero, List.set_cons_succ]
                              refine wpAnyH_take (i := 38) (oi := { dst := some 18, op := _, type := _, pos := _, after := _, guard := _ }) (v := ?v38_718) rfl (by kernel_rfl) (by kernel_rfl) (by kernel_rfl) (fun _ _ _ h => h) (Or.inl ⟨by rfl, ?h38_718⟩) hS ?r38_718
                              case h38_718 => intro w0 hw0; obtain ⟨s0, s1, s2, s3, s4, s5, s6, s7, s8⟩ := hw0; go_simp; try with_reducible rfl
                              simp only [Act.put, List.setIfInBounds_toArray, List.set_cons_zero, List.set_cons_succ]
                              refine wpAnyH_done (by kernel_rfl) ?_ _
                              go_wp2_with fail
                              go_roundw
                              case rel => exact ⟨q + 1, by omega, int_eq (by omega), by rw [hMS.out]; rw [E4.out]; rfl, hGz⟩
                              case measure => simp [intOf]; omega
                          · have e2 : (a.d == m.d) = false := by simpa using c2
                            have e4 : cntB fo st m k a = false := by unfold cntB; rw [decide_eq_false c2]; simp
                            have E4 := Lib.hid e4
                            clear e4 c0 c1 c2
                            refine wp_region_held_drew (S := fun w' => w'.cell? ⟨XA, 0, none⟩ = some (.int .i64 a.f) ∧ w'.cell? ⟨XA, 1, none⟩ = some (.int .i64 a.d) ∧ w'.cell? ⟨XA, 2, none⟩ = some (.int .i64 a.s) ∧ w'.cell? ⟨XA, 3, none⟩ = some (.int .i64 a.u) ∧ w'.cell? ⟨XA, 36, none⟩ = some (.int .i64 a.r) ∧ w'.cell? ⟨XA, 37, none⟩ = some (.int .i64 a.g) ∧ w'.cell? ⟨XM, 0, none⟩ = some (.int .i64 m.d) ∧ w'.cell? ⟨XM, 2, none⟩ = some (.int .i64 m.ver) ∧ Gr WD none w') (by kernel_rfl) (qs_all hXA hXMm hXD ha ((Gr.refl WD none).drew)) (fun hS => ?_)
                            refine wpAnyH_take (i := 0) (oi := { dst := some 123, op := _, type := _, pos := _, after := _, guard := _ }) (v := ?v0_731) rfl (by kernel_rfl) (by kernel_rfl) (by kernel_rfl) (fun _ _ _ h => h) (Or.inl ⟨by rfl, ?h0_731⟩) hS ?r0_731
                            case h0_731 => intro w0 hw0; obtain ⟨s0, s1, s2, s3, s4, s5, s6, s7, s8⟩ := hw0; go_simp; try with_reducible rfl
                            simp only [Act.put, List.setIfInBounds_toArray, List.set_cons_zero, List.set_cons_succ]
                            refine wpAnyH_take (i := 1) (oi := { dst := some 124, op := _, type := _, pos := _, after := _, guard := _ }) (v := ?v1_734) rfl (by kernel_rfl) (by kernel_rfl) (by kernel_rfl) (fun _ _ _ h => h) (Or.inl ⟨by rfl, ?h1_734⟩) hS ?r1_734
                            case h1_734 => intro w0 hw0; obtain ⟨s0, s1, s2, s3, s4, s5, s6, s7, s8⟩ := hw0; go_simp; try with_reducible rfl
                            simp only [Act.put, List.setIfInBounds_toArray, List.set_cons_zero, List.set_cons_succ]
                            refine wpAnyH_take (i := 2) (oi := { dst := some 125, op := _, type := _, pos := _, after := _, guard := _ }) (v := ?v2_737) rfl (by kernel_rfl) (by kernel_rfl) (by kernel_rfl) (fun _ _ _ h => h) (Or.inl ⟨by rfl, ?h2_737⟩) hS ?r2_737
                            case h2_737 => intro w0 hw0; obtain ⟨s0, s1, s2, s3, s4, s5, s6, s7, s8⟩ := hw0; go_simp; try with_reducible rfl
                            simp only [Act.put, List.setIfInBounds_toArray, List.set_cons_zero, List.set_cons_succ]
                            refine wpAnyH_take (i := 3) (oi := { dst := some 126, op := _, type := _, pos := _, after := _, guard := _ }) (v := ?v3_740) rfl (by kernel_rfl) (by kernel_rfl) (by kernel_rfl) (fun _ _ _ h => h) (Or.inl ⟨by rfl, ?h3_740⟩) hS ?r3_740
                            case h3_740 => intro w0 hw0; obtain ⟨s0, s1, s2, s3, s4, s5, s6, s7, s8⟩ := hw0; go_simp; try with_reducible rfl
                            simp only [Act.put, List.setIfInBounds_toArray, List.set_cons_zero, List.set_cons_succ]
                            refine wpAnyH_take (i := 4) (oi := { dst := some 127, op := _, type := _, pos := _, after := _, guard := _ }) (v := ?v4_743) rfl (by kernel_rfl) (by kernel_rfl) (by kernel_rfl) (fun _ _ _ h => h) (Or.inl ⟨by rfl, ?h4_743⟩) hS ?r4_743
                            case h4_743 => intro w0 hw0; obtain ⟨s0, s1, s2, s3, s4, s5, s6, s7, s8⟩ := hw0; go_simp; try with_reducible rfl
                            simp only [Act.put, List.setIfInBounds_toArray, List.set_cons_zero, List.set_cons_succ]
                            refine wpAnyH_take (i := 5) (oi := { dst := some 128, op := _, type := _, pos := _, after := _, guard := _ }) (v := ?v5_746) rfl (by kernel_rfl) (by kernel_rfl) (by kernel_rfl) (fun _ _ _ h => h) (Or.inl ⟨by rfl, ?h5_746⟩) hS ?r5_746
                            case h5_746 => intro w0 hw0; obtain ⟨s0, s1, s2, s3, s4, s5, s6, s7, s8⟩ := hw0; go_simp; try with_reducible rfl
                            simp only [Act.put, List.setIfInBounds_toArray, List.set_cons_zero, List.set_cons_succ]
                            refine wpAnyH_take (i := 6) (oi := { dst := some 129, op := _, type := _, pos := _, after := _, guard := _ }) (v := ?v6_749) rfl (by kernel_rfl) (by kernel_rfl) (by kernel_rfl) (fun _ _ _ h => h) (Or.inl ⟨by rfl, ?h6_749⟩) hS ?r6_749
                            case h6_749 => intro w0 hw0; obtain ⟨s0, s1, s2, s3, s4, s5, s6, s7, s8⟩ := hw0; go_simp; try with_reducible rfl
                            simp only [Act.put, List.setIfInBounds_toArray, List.set_cons_zero, List.set_cons_succ]
                            refine wpAnyH_take (i := 7) (oi := { dst := some 130, op := _, type := _, pos := _, after := _, guard := _ }) (v := ?v7_752) rfl (by kernel_rfl) (by kernel_rfl) (by kernel_rfl) (fun _ _ _ h => h) (Or.inl ⟨by rfl, ?h7_752⟩) hS ?r7_752
                            case h7_752 => intro w0 hw0; obtain ⟨s0, s1, s2, s3, s4, s5, s6, s7, s8⟩ := hw0; go_simp; try with_reducible rfl
                            simp only [Act.put, List.setIfInBounds_toArray, List.set_cons_zero, List.set_cons_succ]
                            refine wpAnyH_take (i := 8) (oi := { dst := some 131, op := _, type := _, pos := _, after := _, guard := _ }) (v := ?v8_755) rfl (by kernel_rfl) (by kernel_rfl) (by kernel_rfl) (fun _ _ _ h => h) (Or.inl ⟨by rfl, ?h8_755⟩) hS ?r8_755
                            case h8_755 => intro w0 hw0; obtain ⟨s0, s1, s2, s3, s4, s5, s6, s7, s8⟩ := hw0; go_simp; try with_reducible rfl
                            simp only [Act.put, List.setIfInBounds_toArray, List.set_cons_zero, List.set_cons_succ]
                            refine wpAnyH_take (i := 9) (oi := { dst := some 132, op := _, type := _, pos := _, after := _, guard := _ }) (v := ?v9_758) rfl (by kernel_rfl) (by kernel_rfl) (by kernel_rfl) (fun _ _ _ h => h) (Or.inl ⟨by rfl, ?h9_758⟩) hS ?r9_758
                            case h9_758 => intro w0 hw0; obtain ⟨s0, s1, s2, s3, s4, s5, s6, s7, s8⟩ := hw0; go_simp; try with_reducible rfl
                            simp only [Act.put, List.setIfInBounds_toArray, List.set_cons_zero, List.set_cons_succ]
                            refine wpAnyH_take (i := 10) (oi := { dst := some 133, op := _, type := _, pos := _, after := _, guard := _ }) (v := ?v10_761) rfl (by kernel_rfl) (by kernel_rfl) (by kernel_rfl) (fun _ _ _ h => h) (Or.inl ⟨by rfl, ?h10_761⟩) hS ?r10_761
                            case h10_761 => intro w0 hw0; obtain ⟨s0, s1, s2, s3, s4, s5, s6, s7, s8⟩ := hw0; go_simp; try with_reducible rfl
                            simp only [Act.put, List.setIfInBounds_toArray, List.set_cons_zero, List.set_cons_succ]
                            refine wpAnyH_take (i := 11) (oi := { dst := some 134, op := _, type := _, pos := _, after := _, guard := _ }) (v := ?v11_764) rfl (by kernel_rfl) (by kernel_rfl) (by kernel_rfl) (fun _ _ _ h => h) (Or.inl ⟨by rfl, ?h11_764⟩) hS ?r11_764
                            case h11_764 => intro w0 hw0; obtain ⟨s0, s1, s2, s3, s4, s5, s6, s7, s8⟩ := hw0; go_simp; try with_reducible rfl
                            simp only [Act.put, List.setIfInBounds_toArray, List.set_cons_zero, List.set_cons_succ]
                            refine wpAnyH_take (i := 12) (oi := { dst := some 135, op := _, type := _, pos := _, after := _, guard := _ }) (v := ?v12_767) rfl (by kernel_rfl) (by kernel_rfl) (by kernel_rfl) (fun _ _ _ h => h) (Or.inl ⟨by rfl, ?h12_767⟩) hS ?r12_767
                            case h12_767 => intro w0 hw0; obtain ⟨s0, s1, s2, s3, s4, s5, s6, s7, s8⟩ := hw0; go_simp; try with_reducible rfl
                            simp only [Act.put, List.setIfInBounds_toArray, List.set_cons_zero, List.set_cons_succ]
                            refine wpAnyH_take (i := 13) (oi := { dst := some 136, op := _, type := _, pos := _, after := _, guard := _ }) (v := ?v13_770) rfl (by kernel_rfl) (by kernel_rfl) (by kernel_rfl) (fun _ _ _ h => h) (Or.inl ⟨by rfl, ?h13_770⟩) hS ?r13_770
                            case h13_770 => intro w0 hw0; obtain ⟨s0, s1, s2, s3, s4, s5, s6, s7, s8⟩ := hw0; go_simp; try with_reducible rfl
                            simp only [Act.put, List.setIfInBounds_toArray, List.set_cons_zero, List.set_cons_succ]
                            refine wpAnyH_take (i := 14) (oi := { dst := some 137, op := _, type := _, pos := _, after := _, guard := _ }) (v := ?v14_773) rfl (by kernel_rfl) (by kernel_rfl) (by kernel_rfl) (fun _ _ _ h => h) (Or.inl ⟨by rfl, ?h14_773⟩) hS ?r14_773
                            case h14_773 => intro w0 hw0; obtain ⟨s0, s1, s2, s3, s4, s5, s6, s7, s8⟩ := hw0; go_simp; try with_reducible rfl
                            simp only [Act.put, List.setIfInBounds_toArray, List.set_cons_zero, List.set_cons_succ]
                            refine wpAnyH_take (i := 15) (oi := { dst := some 138, op := _, type := _, pos := _, after := _, guard := _ }) (v := ?v15_776) rfl (by kernel_rfl) (by kernel_rfl) (by kernel_rfl) (fun _ _ _ h => h) (Or.inl ⟨by rfl, ?h15_776⟩) hS ?r15_776
                            case h15_776 => intro w0 hw0; obtain ⟨s0, s1, s2, s3, s4, s5, s6, s7, s8⟩ := hw0; go_simp; try with_reducible rfl
                            simp only [Act.put, List.setIfInBounds_toArray, List.set_cons_zero, List.set_cons_succ]
                            refine wpAnyH_take (i := 16) (oi := { dst := some 139, op := _, type := _, pos := _, after := _, guard := _ }) (v := ?v16_779) rfl (by kernel_rfl) (by kernel_rfl) (by kernel_rfl) (fun _ _ _ h => h) (Or.inl ⟨by rfl, ?h16_779⟩) hS ?r16_779
                            case h16_779 => intro w0 hw0; obtain ⟨s0, s1, s2, s3, s4, s5, s6, s7, s8⟩ := hw0; go_simp; try with_reducible rfl
                            simp only [Act.put, List.setIfInBounds_toArray, List.set_cons_zero, List.set_cons_succ]
                            refine wpAnyH_take (i := 17) (oi := { dst := some 140, op := _, type := _, pos := _, after := _, guard := _ }) (v := ?v17_782) rfl (by kernel_rfl) (by kernel_rfl) (by kernel_rfl) (fun _ _ _ h => h) (Or.inl ⟨by rfl, ?h17_782⟩) hS ?r17_782
                            case h17_782 => intro w0 hw0; obtain ⟨s0, s1, s2, s3, s4, s5, s6, s7, s8⟩ := hw0; go_simp; try with_reducible rfl
                            simp only [Act.put, List.setIfInBounds_toArray, List.set_cons_zero, List.set_cons_succ]
                            refine wpAnyH_take (i := 18) (oi := { dst := some 141, op := _, type := _, pos := _, after := _, guard := _ }) (v := ?v18_785) rfl (by kernel_rfl) (by kernel_rfl) (by kernel_rfl) (fun _ _ _ h => h) (Or.inl ⟨by rfl, ?h18_785⟩) hS ?r18_785
                            case h18_785 => intro w0 hw0; obtain ⟨s0, s1, s2, s3, s4, s5, s6, s7, s8⟩ := hw0; go_simp; try with_reducible rfl
                            simp only [Act.put, List.setIfInBounds_toArray, List.set_cons_zero, List.set_cons_succ]
                            refine wpAnyH_take (i := 19) (oi := { dst := some 142, op := _, type := _, pos := _, after := _, guard := _ }) (v := ?v19_788) rfl (by kernel_rfl) (by kernel_rfl) (by kernel_rfl) (fun _ _ _ h => h) (Or.inl ⟨by rfl, ?h19_788⟩) hS ?r19_788
                            case h19_788 => intro w0 hw0; obtain ⟨s0, s1, s2, s3, s4, s5, s6, s7, s8⟩ := hw0; go_simp; try with_reducible rfl
                            simp only [Act.put, List.setIfInBounds_toArray, List.set_cons_zero, List.set_cons_succ]
                            refine wpAnyH_take (i := 20) (oi := { dst := some 143, op := _, type := _, pos := _, after := _, guard := _ }) (v := ?v20_791) rfl (by kernel_rfl) (by kernel_rfl) (by kernel_rfl) (fun _ _ _ h => h) (Or.inl ⟨by rfl, ?h20_791⟩) hS ?r20_791
                            case h20_791 => intro w0 hw0; obtain ⟨s0, s1, s2, s3, s4, s5, s6, s7, s8⟩ := hw0; go_simp; try with_reducible rfl
                            simp only [Act.put, List.setIfInBounds_toArray, List.set_cons_zero, List.set_cons_succ]
                            refine wpAnyH_take (i := 21) (oi := { dst := some 144, op := _, type := _, pos := _, after := _, guard := _ }) (v := ?v21_794) rfl (by kernel_rfl) (by kernel_rfl) (by kernel_rfl) (fun _ _ _ h => h) (Or.inl ⟨by rfl, ?h21_794⟩) hS ?r21_794
                            case h21_794 => intro w0 hw0; obtain ⟨s0, s1, s2, s3, s4, s5, s6, s7, s8⟩ := hw0; go_simp; try with_reducible rfl
                            simp only [Act.put, List.setIfInBounds_toArray, List.set_cons_zero, List.set_cons_succ]
                            refine wpAnyH_take (i := 22) (oi := { dst := some 145, op := _, type := _, pos := _, after := _, guard := _ }) (v := ?v22_797) rfl (by kernel_rfl) (by kernel_rfl) (by kernel_rfl) (fun _ _ _ h => h) (Or.inl ⟨by rfl, ?h22_797⟩) hS ?r22_797
                            case h22_797 => intro w0 hw0; obtain ⟨s0, s1, s2, s3, s4, s5, s6, s7, s8⟩ := hw0; go_simp; try with_reducible rfl
                            simp only [Act.put, List.setIfInBounds_toArray, List.set_cons_zero, List.set_cons_succ]
                            refine wpAnyH_take (i := 23) (oi := { dst := some 146, op := _, type := _, pos := _, after := _, guard := _ }) (v := ?v23_800) rfl (by kernel_rfl) (by kernel_rfl) (by kernel_rfl) (fun _ _ _ h => h) (Or.inl ⟨by rfl, ?h23_800⟩) hS ?r23_800
                            case h23_800 => intro w0 hw0; obtain ⟨s0, s1, s2, s3, s4, s5, s6, s7, s8⟩ := hw0; go_simp; try with_reducible rfl
                            simp only [Act.put, List.setIfInBounds_toArray, List.set_cons_zero, List.set_cons_succ]
                            refine wpAnyH_take (i := 24) (oi := { dst := some 147, op := _, type := _, pos := _, after := _, guard := _ }) (v := undef) rfl (by kernel_rfl) (by kernel_rfl) (by kernel_rfl) (fun _ _ _ h => h) (Or.inr ⟨by rfl, rfl⟩) hS ?r24_803
                            simp only [Act.put, List.setIfInBounds_toArray, List.set_cons_zero, List.set_cons_succ]
                            refine wpAnyH_take (i := 25) (oi := { dst := some 148, op := _, type := _, pos := _, after := _, guard := _ }) (v := undef) rfl (by kernel_rfl) (by kernel_rfl) (by kernel_rfl) (fun _ _ _ h => h) (Or.inr ⟨by rfl, rfl⟩) hS ?r25_805
                            simp only [Act.put, List.setIfInBounds_toArray, List.set_cons_zero, List.set_cons_succ]
                            refine wpAnyH_take (i := 26) (oi := { dst := some 149, op := _, type := _, pos := _, after := _, guard := _ }) (v := undef) rfl (by kernel_rfl) (by kernel_rfl) (by kernel_rfl) (fun _ _ _ h => h) (Or.inr ⟨by rfl, rfl⟩) hS ?r26_807
                            simp only [Act.put, List.setIfInBounds_toArray, List.set_cons_zero, List.set_cons_succ]
                            refine wpAnyH_take (i := 27) (oi := { dst := some 150, op := _, type := _, pos := _, after := _, guard := _ }) (v := undef) rfl (by kernel_rfl) (by kernel_rfl) (by kernel_rfl) (fun _ _ _ h => h) (Or.inr ⟨by rfl, rfl⟩) hS ?r27_809
                            simp only [Act.put, List.setIfInBounds_toArray, List.set_cons_zero, List.set_cons_succ]
                            refine wpAnyH_take (i := 28) (oi := { dst := some 151, op := _, type := _, pos := _, after := _, guard := _ }) (v := ?v28_811) rfl (by kernel_rfl) (by kernel_rfl) (by kernel_rfl) (fun _ _ _ h => h) (Or.inl ⟨by rfl, ?h28_811⟩) hS ?r28_811
                            case h28_811 => intro w0 hw0; obtain ⟨s0, s1, s2, s3, s4, s5, s6, s7, s8⟩ := hw0; go_simp; try with_reducible rfl
                            simp only [Act.put, List.setIfInBounds_toArray, List.set_cons_zero, List.set_cons_succ]
                            refine wpAnyH_take (i := 29) (oi := { dst := some 152, op := _, type := _, pos := _, after := _, guard := _ }) (v := ?v29_814) rfl (by kernel_rfl) (by kernel_rfl) (by kernel_rfl) (fun _ _ _ h => h) (Or.inl ⟨by rfl, ?h29_814⟩) hS ?r29_814
                            case h29_814 => intro w0 hw0; obtain ⟨s0, s1, s2, s3, s4, s5, s6, s7, s8⟩ := hw0; go_simp; try with_reducible rfl
                            simp only [Act.put, List.setIfInBounds_toArray, List.set_cons_zero, List.set_cons_succ]
                            refine wpAnyH_take (i := 30) (oi := { dst := some 153, op := _, type := _, pos := _, after := _, guard := _ }) (v := undef) rfl (by kernel_rfl) (by kernel_rfl) (by kernel_rfl) (fun _ _ _ h => h) (Or.inr ⟨by rfl, rfl⟩) hS ?r30_817
                            simp only [Act.put, List.setIfInBounds_toArray, List.set_cons_zero, List.set_cons_succ]
                            refine wpAnyH_take (i := 31) (oi := { dst := some 154, op := _, type := _, pos := _, after := _, guard := _ }) (v := undef) rfl (by kernel_rfl) (by kernel_rfl) (by kernel_rfl) (fun _ _ _ h => h) (Or.inr ⟨by rfl, rfl⟩) hS ?r31_819
                            simp only [Act.put, List.setIfInBounds_toArray, List.set_cons_zero, List.set_cons_succ]
                            refine wpAnyH_take (i := 32) (oi := { dst := some 155, op := _, type := _, pos := _, after := _, guard := _ }) (v := undef) rfl (by kernel_rfl) (by kernel_rfl) (by kernel_rfl) (fun _ _ _ h => h) (Or.inr ⟨by rfl, rfl⟩) hS ?r32_821
                            simp only [Act.put, List.setIfInBounds_toArray, List.set_cons_zero, List.set_cons_succ]
                            refine wpAnyH_take (i := 33) (oi := { dst := some 156, op := _, type := _, pos := _, after := _, guard := _ }) (v := undef) rfl (by kernel_rfl) (by kernel_rfl) (by kernel_rfl) (fun _ _ _ h => h) (Or.inr ⟨by rfl, rfl⟩) hS ?r33_823
                            simp only [Act.put, List.setIfInBounds_toArray, List.set_cons_zero, List.set_cons_succ]
                            refine wpAnyH_take (i := 34) (oi := { dst := some 157, op := _, type := _, pos := _, after := _, guard := _ }) (v := undef) rfl (by kernel_rfl) (by kernel_rfl) (by kernel_rfl) (fun _ _ _ h => h) (Or.inr ⟨by rfl, rfl⟩) hS ?r34_825
                            simp only [Act.put, List.setIfInBounds_toArray, List.set_cons_zero, List.set_cons_succ]
                            refine wpAnyH_take (i := 35) (oi := { dst := some 158, op := _, type := _, pos := _, after := _, guard := _ }) (v := undef) rfl (by kernel_rfl) (by kernel_rfl) (by kernel_rfl) (fun _ _ _ h => h) (Or.inr ⟨by rfl, rfl⟩) hS ?r35_827
                            simp only [Act.put, List.setIfInBounds_toArray, List.set_cons_zero, List.set_cons_succ]
                            refine wpAnyH_take (i := 36) (oi := { dst := some 159, op := _, type := _, pos := _, after := _, guard := _ }) (v := ?v36_829) rfl (by kernel_rfl) (by kernel_rfl) (by kernel_rfl) (fun _ _ _ h => h) (Or.inl ⟨by rfl, ?h36_829⟩) hS ?r36_829
                            case h36_829 => intro w0 hw0; obtain ⟨s0, s1, s2, s3, s4, s5, s6, s7, s8⟩ := hw0; go_simp; try with_reducible rfl
                            simp only [Act.put, List.setIfInBounds_toArray, List.set_cons_zero, List.set_cons_succ]
                            refine wpAnyH_take (i := 37) (oi := { dst := some 160, op := _, type := _, pos := _, after := _, guard := _ }) (v := ?v37_832) rfl (by kernel_rfl) (by kernel_rfl) (by kernel_rfl) (fun _ _ _ h => h) (Or.inl ⟨by rfl, ?h37_832⟩) hS ?r37_832
                            case h37_832 => intro w0 hw0; obtain ⟨s0, s1, s2, s3, s4, s5, s6, s7, s8⟩ := hw0; go_simp; try with_reducible rfl
                            simp only [Act.put, List.setIfInBounds_toArray, List.set_cons_zero, List.set_cons_succ]
                            refine wpAnyH_take (i := 38) (oi := { dst := some 18, op := _, type := _, pos := _, after := _, guard := _ }) (v := ?v38_835) rfl (by kernel_rfl) (by kernel_rfl) (by kernel_rfl) (fun _ _ _ h => h) (Or.inl ⟨by rfl, ?h38_835⟩) hS ?r38_835
                            case h38_835 => intro w0 hw0; obtain ⟨s0, s1, s2, s3, s4, s5, s6, s7, s8⟩ := hw0; go_simp; try with_reducible rfl
                            simp only [Act.put, List.setIfInBounds_toArray, List.set_cons_zero, List.set_cons_succ]
                            refine wpAnyH_done (by kernel_rfl) ?_ _
                            go_wp2_with fail
                            go_roundw
                            case rel => exact ⟨q + 1, by omega, int_eq (by omega), by rw [hMS.out]; rw [E4.out]; rfl, hGz⟩
                            case measure => simp [intOf]; omega
                        · have e1 : (a.s == st) = false := by simpa using c1
                          have e4 : cntB fo st m k a = false := by unfold cntB; rw [decide_eq_false c1]; simp
                          have E4 := Lib.hid e4
                          clear e4 c0 c1
                          refine wp_region_held_drew (S := fun w' => w'.cell? ⟨XA, 0, none⟩ = some (.int .i64 a.f) ∧ w'.cell? ⟨XA, 1, none⟩ = some (.int .i64 a.d) ∧ w'.cell? ⟨XA, 2, none⟩ = some (.int .i64 a.s) ∧ w'.cell? ⟨XA, 3, none⟩ = some (.int .i64 a.u) ∧ w'.cell? ⟨XA, 36, none⟩ = some (.int .i64 a.r) ∧ w'.cell? ⟨XA, 37, none⟩ = some (.int .i64 a.g) ∧ w'.cell? ⟨XM, 0, none⟩ = some (.int .i64 m.d) ∧ w'.cell? ⟨XM, 2, none⟩ = some (.int .i64 m.ver) ∧ Gr WD none w') (by kernel_rfl) (qs_all hXA hXMm hXD ha ((Gr.refl WD none).drew)) (fun hS => ?_)
                          refine wpAnyH_take (i := 0) (oi := { dst := some 123, op := _, type := _, pos := _, after := _, guard := _ }) (v := ?v0_848) rfl (by kernel_rfl) (by kernel_rfl) (by kernel_rfl) (fun _ _ _ h => h) (Or.inl ⟨by rfl, ?h0_848⟩) hS ?r0_848
                          case h0_848 => intro w0 hw0; obtain ⟨s0, s1, s2, s3, s4, s5, s6, s7, s8⟩ := hw0; go_simp; try with_reducible rfl
                          simp only [Act.put, List.setIfInBounds_toArray, List.set_cons_zero, List.set_cons_succ]
                          refine wpAnyH_take (i := 1) (oi := { dst := some 124, op := _, type := _, pos := _, after := _, guard := _ }) (v := ?v1_851) rfl (by kernel_rfl) (by kernel_rfl) (by kernel_rfl) (fun _ _ _ h => h) (Or.inl ⟨by rfl, ?h1_851⟩) hS ?r1_851
                          case h1_851 => intro w0 hw0; obtain ⟨s0, s1, s2, s3, s4, s5, s6, s7, s8⟩ := hw0; go_simp; try with_reducible rfl
                          simp only [Act.put, List.setIfInBounds_toArray, List.set_cons_zero, List.set_cons_succ]
                          refine wpAnyH_take (i := 2) (oi := { dst := some 125, op := _, type := _, pos := _, after := _, guard := _ }) (v := ?v2_854) rfl (by kernel_rfl) (by kernel_rfl) (by kernel_rfl) (fun _ _ _ h => h) (Or.inl ⟨by rfl, ?h2_854⟩) hS ?r2_854
                          case h2_854 => intro w0 hw0; obtain ⟨s0, s1, s2, s3, s4, s5, s6, s7, s8⟩ := hw0; go_simp; try with_reducible rfl
                          simp only [Act.put, List.setIfInBounds_toArray, List.set_cons_zero, List.set_cons_succ]
                          refine wpAnyH_take (i := 3) (oi := { dst := some 126, op := _, type := _, pos := _, after := _, guard := _ }) (v := ?v3_857) rfl (by kernel_rfl) (by kernel_rfl) (by kernel_rfl) (fun _ _ _ h => h) (Or.inl ⟨by rfl, ?h3_857⟩) hS ?r3_857
                          case h3_857 => intro w0 hw0; obtain ⟨s0, s1, s2, s3, s4, s5, s6, s7, s8⟩ := hw0; go_simp; try with_reducible rfl
                          simp only [Act.put, List.setIfInBounds_toArray, List.set_cons_zero, List.set_cons_succ]
                          refine wpAnyH_take (i := 4) (oi := { dst := some 127, op := _, type := _, pos := _, after := _, guard := _ }) (v := ?v4_860) rfl (by kernel_rfl) (by kernel_rfl) (by kernel_rfl) (fun _ _ _ h => h) (Or.inl ⟨by rfl, ?h4_860⟩) hS ?r4_860
                          case h4_860 => intro w0 hw0; obtain ⟨s0, s1, s2, s3, s4, s5, s6, s7, s8⟩ := hw0; go_simp; try with_reducible rfl
                          simp only [Act.put, List.setIfInBounds_toArray, List.set_cons_zero, List.set_cons_succ]
                          refine wpAnyH_take (i := 5) (oi := { dst := some 128, op := _, type := _, pos := _, after := _, guard := _ }) (v := ?v5_863) rfl (by kernel_rfl) (by kernel_rfl) (by kernel_rfl) (fun _ _ _ h => h) (Or.inl ⟨by rfl, ?h5_863⟩) hS ?r5_863
                          case h5_863 => intro w0 hw0; obtain ⟨s0, s1, s2, s3, s4, s5, s6, s7, s8⟩ := hw0; go_simp; try with_reducible rfl
                          simp only [Act.put, List.setIfInBounds_toArray, List.set_cons_zero, List.set_cons_succ]
                          refine wpAnyH_take (i := 6) (oi := { dst := some 129, op := _, type := _, pos := _, after := _, guard := _ }) (v := ?v6_866) rfl (by kernel_rfl) (by kernel_rfl) (by kernel_rfl) (fun _ _ _ h => h) (Or.inl ⟨by rfl, ?h6_866⟩) hS ?r6_866
                          case h6_866 => intro w0 hw0; obtain ⟨s0, s1, s2, s3, s4, s5, s6, s7, s8⟩ := hw0; go_simp; try with_reducible rfl
                          simp only [Act.put, List.setIfInBounds_toArray, List.set_cons_zero, List.set_cons_succ]
                          refine wpAnyH_take (i := 7) (oi := { dst := some 130, op := _, type := _, pos := _, after := _, guard := _ }) (v := ?v7_869) rfl (by kernel_rfl) (by kernel_rfl) (by kernel_rfl) (fun _ _ _ h => h) (Or.inl ⟨by rfl, ?h7_869⟩) hS ?r7_869
                          case h7_869 => intro w0 hw0; obtain ⟨s0, s1, s2, s3, s4, s5, s6, s7, s8⟩ := hw0; go_simp; try with_reducible rfl
                          simp only [Act.put, List.setIfInBounds_toArray, List.set_cons_zero, List.set_cons_succ]
                          refine wpAnyH_take (i := 8) (oi := { dst := some 131, op := _, type := _, pos := _, after := _, guard := _ }) (v := ?v8_872) rfl (by kernel_rfl) (by kernel_rfl) (by kernel_rfl) (fun _ _ _ h => h) (Or.inl ⟨by rfl, ?h8_872⟩) hS ?r8_872
                          case h8_872 => intro w0 hw0; obtain ⟨s0, s1, s2, s3, s4, s5, s6, s7, s8⟩ := hw0; go_simp; try with_reducible rfl
                          simp only [Act.put, List.setIfInBounds_toArray, List.set_cons_zero, List.set_cons_succ]
                          refine wpAnyH_take (i := 9) (oi := { dst := some 132, op := _, type := _, pos := _, after := _, guard := _ }) (v := ?v9_875) rfl (by kernel_rfl) (by kernel_rfl) (by kernel_rfl) (fun _ _ _ h => h) (Or.inl ⟨by rfl, ?h9_875⟩) hS ?r9_875
                          case h9_875 => intro w0 hw0; obtain ⟨s0, s1, s2, s3, s4, s5, s6, s7, s8⟩ := hw0; go_simp; try with_reducible rfl
                          simp only [Act.put, List.setIfInBounds_toArray, List.set_cons_zero, List.set_cons_succ]
                          refine wpAnyH_take (i := 10) (oi := { dst := some 133, op := _, type := _, pos := _, after := _, guard := _ }) (v := ?v10_878) rfl (by kernel_rfl) (by kernel_rfl) (by kernel_rfl) (fun _ _ _ h => h) (Or.inl ⟨by rfl, ?h10_878⟩) hS ?r10_878
                          case h10_878 => intro w0 hw0; obtain ⟨s0, s1, s2, s3, s4, s5, s6, s7, s8⟩ := hw0; go_simp; try with_reducible rfl
                          simp only [Act.put, List.setIfInBounds_toArray, List.set_cons_zero, List.set_cons_succ]
                          refine wpAnyH_take (i := 11) (oi := { dst := some 134, op := _, type := _, pos := _, after := _, guard := _ }) (v := ?v11_881) rfl (by kernel_rfl) (by kernel_rfl) (by kernel_rfl) (fun _ _ _ h => h) (Or.inl ⟨by rfl, ?h11_881⟩) hS ?r11_881
                          case h11_881 => intro w0 hw0; obtain ⟨s0, s1, s2, s3, s4, s5, s6, s7, s8⟩ := hw0; go_simp; try with_reducible rfl
                          simp only [Act.put, List.setIfInBounds_toArray, List.set_cons_zero, List.set_cons_succ]
                          refine wpAnyH_take (i := 12) (oi := { dst := some 135, op := _, type := _, pos := _, after := _, guard := _ }) (v := ?v12_884) rfl (by kernel_rfl) (by kernel_rfl) (by kernel_rfl) (fun _ _ _ h => h) (Or.inl ⟨by rfl, ?h12_884⟩) hS ?r12_884
                          case h12_884 => intro w0 hw0; obtain ⟨s0, s1, s2, s3, s4, s5, s6, s7, s8⟩ := hw0; go_simp; try with_reducible rfl
                          simp only [Act.put, List.setIfInBounds_toArray, List.set_cons_zero, List.set_cons_succ]
                          refine wpAnyH_take (i := 13) (oi := { dst := some 136, op := _, type := _, pos := _, after := _, guard := _ }) (v := ?v13_887) rfl (by kernel_rfl) (by kernel_rfl) (by kernel_rfl) (fun _ _ _ h => h) (Or.inl ⟨by rfl, ?h13_887⟩) hS ?r13_887
                          case h13_887 => intro w0 hw0; obtain ⟨s0, s1, s2, s3, s4, s5, s6, s7, s8⟩ := hw0; go_simp; try with_reducible rfl
                          simp only [Act.put, List.setIfInBounds_toArray, List.set_cons_zero, List.set_cons_succ]
                          refine wpAnyH_take (i := 14) (oi := { dst := some 137, op := _, type := _, pos := _, after := _, guard := _ }) (v := ?v14_890) rfl (by kernel_rfl) (by kernel_rfl) (by kernel_rfl) (fun _ _ _ h => h) (Or.inl ⟨by rfl, ?h14_890⟩) hS ?r14_890
                          case h14_890 => intro w0 hw0; obtain ⟨s0, s1, s2, s3, s4, s5, s6, s7, s8⟩ := hw0; go_simp; try with_reducible rfl
                          simp only [Act.put, List.setIfInBounds_toArray, List.set_cons_zero, List.set_cons_succ]
                          refine wpAnyH_take (i := 15) (oi := { dst := some 138, op := _, type := _, pos := _, after := _, guard := _ }) (v := ?v15_893) rfl (by kernel_rfl) (by kernel_rfl) (by kernel_rfl) (fun _ _ _ h => h) (Or.inl ⟨by rfl, ?h15_893⟩) hS ?r15_893
                          case h15_893 => intro w0 hw0; obtain ⟨s0, s1, s2, s3, s4, s5, s6, s7, s8⟩ := hw0; go_simp; try with_reducible rfl
                          simp only [Act.put, List.setIfInBounds_toArray, List.set_cons_zero, List.set_cons_succ]
                          refine wpAnyH_take (i := 16) (oi := { dst := some 139, op := _, type := _, pos := _, after := _, guard := _ }) (v := ?v16_896) rfl (by kernel_rfl) (by kernel_rfl) (by kernel_rfl) (fun _ _ _ h => h) (Or.inl ⟨by rfl, ?h16_896⟩) hS ?r16_896
                          case h16_896 => intro w0 hw0; obtain ⟨s0, s1, s2, s3, s4, s5, s6, s7, s8⟩ := hw0; go_simp; try with_reducible rfl
                          simp only [Act.put, List.setIfInBounds_toArray, List.set_cons_zero, List.set_cons_succ]
                          refine wpAnyH_take (i := 17) (oi := { dst := some 140, op := _, type := _, pos := _, after := _, guard := _ }) (v := undef) rfl (by kernel_rfl) (by kernel_rfl) (by kernel_rfl) (fun _ _ _ h => h) (Or.inr ⟨by rfl, rfl⟩) hS ?r17_899
                          simp only [Act.put, List.setIfInBounds_toArray, List.set_cons_zero, List.set_cons_succ]
                          refine wpAnyH_take (i := 18) (oi := { dst := some 141, op := _, type := _, pos := _, after := _, guard := _ }) (v := undef) rfl (by kernel_rfl) (by kernel_rfl) (by kernel_rfl) (fun _ _ _ h => h) (Or.inr ⟨by rfl, rfl⟩) hS ?r18_901
                          simp only [Act.put, List.setIfInBounds_toArray, List.set_cons_zero, List.set_cons_succ]
                          refine wpAnyH_take (i := 19) (oi := { dst := some 142, op := _, type := _, pos := _, after := _, guard := _ }) (v := undef) rfl (by kernel_rfl) (by kernel_rfl) (by kernel_rfl) (fun _ _ _ h => h) (Or.inr ⟨by rfl, rfl⟩) hS ?r19_903
                          simp only [Act.put, List.setIfInBounds_toArray, List.set_cons_zero, List.set_cons_succ]
                          refine wpAnyH_take (i := 20) (oi := { dst := some 143, op := _, type := _, pos := _, after := _, guard := _ }) (v := undef) rfl (by kernel_rfl) (by kernel_rfl) (by kernel_rfl) (fun _ _ _ h => h) (Or.inr ⟨by rfl, rfl⟩) hS ?r20_905
                          simp only [Act.put, List.setIfInBounds_toArray, List.set_cons_zero, List.set_cons_succ]
                          refine wpAnyH_take (i := 21) (oi := { dst := some 144, op := _, type := _, pos := _, after := _, guard := _ }) (v := undef) rfl (by kernel_rfl) (by kernel_rfl) (by kernel_rfl) (fun _ _ _ h => h) (Or.inr ⟨by rfl, rfl⟩) hS ?r21_907
                          simp only [Act.put, List.setIfInBounds_toArray, List.set_cons_zero, List.set_cons_succ]
                          refine wpAnyH_take (i := 22) (oi := { dst := some 145, op := _, type := _, pos := _, after := _, guard := _ }) (v := ?v22_909) rfl (by kernel_rfl) (by kernel_rfl) (by kernel_rfl) (fun _ _ _ h => h) (Or.inl ⟨by rfl, ?h22_909⟩) hS ?r22_909
                          case h22_909 => intro w0 hw0; obtain ⟨s0, s1, s2, s3, s4, s5, s6, s7, s8⟩ := hw0; go_simp; try with_reducible rfl
                          simp only [Act.put, List.setIfInBounds_toArray, List.set_cons_zero, List.set_cons_succ]
                          refine wpAnyH_take (i := 23) (oi := { dst := some 146, op := _, type := _, pos := _, after := _, guard := _ }) (v := ?v23_912) rfl (by kernel_rfl) (by kernel_rfl) (by kernel_rfl) (fun _ _ _ h => h) (Or.inl ⟨by rfl, ?h23_912⟩) hS ?r23_912
                          case h23_912 => intro w0 hw0; obtain ⟨s0, s1, s2, s3, s4, s5, s6, s7, s8⟩ := hw0; go_simp; try with_reducible rfl
                          simp only [Act.put, List.setIfInBounds_toArray, List.set_cons_zero, List.set_cons_succ]
                          refine wpAnyH_take (i := 24) (oi := { dst := some 147, op := _, type := _, pos := _, after := _, guard := _ }) (v := undef) rfl (by kernel_rfl) (by kernel_rfl) (by kernel_rfl) (fun _ _ _ h => h) (Or.inr ⟨by rfl, rfl⟩) hS ?r24_915
                          simp only [Act.put, List.setIfInBounds_toArray, List.set_cons_zero, List.set_cons_succ]
                          refine wpAnyH_take (i := 25) (oi := { dst := some 148, op := _, type := _, pos := _, after := _, guard := _ }) (v := undef) rfl (by kernel_rfl) (by kernel_rfl) (by kernel_rfl) (fun _ _ _ h => h) (Or.inr ⟨by rfl, rfl⟩) hS ?r25_917
                          simp only [Act.put, List.setIfInBounds_toArray, List.set_cons_zero, List.set_cons_succ]
                          refine wpAnyH_take (i := 26) (oi := { dst := some 149, op := _, type := _, pos := _, after := _, guard := _ }) (v := undef) rfl (by kernel_rfl) (by kernel_rfl) (by kernel_rfl) (fun _ _ _ h => h) (Or.inr ⟨by rfl, rfl⟩) hS ?r26_919
                          simp only [Act.put, List.setIfInBounds_toArray, List.set_cons_zero, List.set_cons_succ]
                          refine wpAnyH_take (i := 27) (oi := { dst := some 150, op := _, type := _, pos := _, after := _, guard := _ }) (v := undef) rfl (by kernel_rfl) (by kernel_rfl) (by kernel_rfl) (fun _ _ _ h => h) (Or.inr ⟨by rfl, rfl⟩) hS ?r27_921
                          simp only [Act.put, List.setIfInBounds_toArray, List.set_cons_zero, List.set_cons_succ]
                          refine wpAnyH_take (i := 28) (oi := { dst := some 151, op := _, type := _, pos := _, after := _, guard := _ }) (v := ?v28_923) rfl (by kernel_rfl) (by kernel_rfl) (by kernel_rfl) (fun _ _ _ h => h) (Or.inl ⟨by rfl, ?h28_923⟩) hS ?r28_923
                          case h28_923 => intro w0 hw0; obtain ⟨s0, s1, s2, s3, s4, s5, s6, s7, s8⟩ := hw0; go_simp; try with_reducible rfl
                          simp only [Act.put, List.setIfInBounds_toArray, List.set_cons_zero, List.set_cons_succ]
                          refine wpAnyH_take (i := 29) (oi := { dst := some 152, op := _, type := _, pos := _, after := _, guard := _ }) (v := ?v29_926) rfl (by kernel_rfl) (by kernel_rfl) (by kernel_rfl) (fun _ _ _ h => h) (Or.inl ⟨by rfl, ?h29_926⟩) hS ?r29_926
                          case h29_926 => intro w0 hw0; obtain ⟨s0, s1, s2, s3, s4, s5, s6, s7, s8⟩ := hw0; go_simp; try with_reducible rfl
                          simp only [Act.put, List.setIfInBounds_toArray, List.set_cons_zero, List.set_cons_succ]
                          refine wpAnyH_take (i := 30) (oi := { dst := some 153, op := _, type := _, pos := _, after := _, guard := _ }) (v := undef) rfl (by kernel_rfl) (by kernel_rfl) (by kernel_rfl) (fun _ _ _ h => h) (Or.inr ⟨by rfl, rfl⟩) hS ?r30_929
                          simp only [Act.put, List.setIfInBounds_toArray, List.set_cons_zero, List.set_cons_succ]
                          refine wpAnyH_take (i := 31) (oi := { dst := some 154, op := _, type := _, pos := _, after := _, guard := _ }) (v := undef) rfl (by kernel_rfl) (by kernel_rfl) (by kernel_rfl) (fun _ _ _ h => h) (Or.inr ⟨by rfl, rfl⟩) hS ?r31_931
                          simp only [Act.put, List.setIfInBounds_toArray, List.set_cons_zero, List.set_cons_succ]
                          refine wpAnyH_take (i := 32) (oi := { dst := some 155, op := _, type := _, pos := _, after := _, guard := _ }) (v := undef) rfl (by kernel_rfl) (by kernel_rfl) (by kernel_rfl) (fun _ _ _ h => h) (Or.inr ⟨by rfl, rfl⟩) hS ?r32_933
                          simp only [Act.put, List.setIfInBounds_toArray, List.set_cons_zero, List.set_cons_succ]
                          refine wpAnyH_take (i := 33) (oi := { dst := some 156, op := _, type := _, pos := _, after := _, guard := _ }) (v := undef) rfl (by kernel_rfl) (by kernel_rfl) (by kernel_rfl) (fun _ _ _ h => h) (Or.inr ⟨by rfl, rfl⟩) hS ?r33_935
                          simp only [Act.put, List.setIfInBounds_toArray, List.set_cons_zero, List.set_cons_succ]
                          refine wpAnyH_take (i := 34) (oi := { dst := some 157, op := _, type := _, pos := _, after := _, guard := _ }) (v := undef) rfl (by kernel_rfl) (by kernel_rfl) (by kernel_rfl) (fun _ _ _ h => h) (Or.inr ⟨by rfl, rfl⟩) hS ?r34_937
                          simp only [Act.put, List.setIfInBounds_toArray, List.set_cons_zero, List.set_cons_succ]
                          refine wpAnyH_take (i := 35) (oi := { dst := some 158, op := _, type := _, pos := _, after := _, guard := _ }) (v := undef) rfl (by kernel_rfl) (by kernel_rfl) (by kernel_rfl) (fun _ _ _ h => h) (Or.inr ⟨by rfl, rfl⟩) hS ?r35_939
                          simp only [Act.put, List.setIfInBounds_toArray, List.set_cons_zero, List.set_cons_succ]
                          refine wpAnyH_take (i := 36) (oi := { dst := some 159, op := _, type := _, pos := _, after := _, guard := _ }) (v := ?v36_941) rfl (by kernel_rfl) (by kernel_rfl) (by kernel_rfl) (fun _ _ _ h => h) (Or.inl ⟨by rfl, ?h36_941⟩) hS ?r36_941
                          case h36_941 => intro w0 hw0; obtain ⟨s0, s1, s2, s3, s4, s5, s6, s7, s8⟩ := hw0; go_simp; try with_reducible rfl
                          simp only [Act.put, List.setIfInBounds_toArray, List.set_cons_zero, List.set_cons_succ]
                          refine wpAnyH_take (i := 37) (oi := { dst := some 160, op := _, type := _, pos := _, after := _, guard := _ }) (v := ?v37_944) rfl (by kernel_rfl) (by kernel_rfl) (by kernel_rfl) (fun _ _ _ h => h) (Or.inl ⟨by rfl, ?h37_944⟩) hS ?r37_944
                          case h37_944 => intro w0 hw0; obtain ⟨s0, s1, s2, s3, s4, s5, s6, s7, s8⟩ := hw0; go_simp; try with_reducible rfl
                          simp only [Act.put, List.setIfInBounds_toArray, List.set_cons_zero, List.set_cons_succ]
                          refine wpAnyH_take (i := 38) (oi := { dst := some 18, op := _, type := _, pos := _, after := _, guard := _ }) (v := ?v38_947) rfl (by kernel_rfl) (by kernel_rfl) (by kernel_rfl) (fun _ _ _ h => h) (Or.inl ⟨by rfl, ?h38_947⟩) hS ?r38_947
                          case h38_947 => intro w0 hw0; obtain ⟨s0, s1, s2, s3, s4, s5, s6, s7, s8⟩ := hw0; go_simp; try with_reducible rfl
                          simp only [Act.put, List.setIfInBounds_toArray, List.set_cons_zero, List.set_cons_succ]
                          refine wpAnyH_done (by kernel_rfl) ?_ _
                          go_wp2_with fail
                          go_roundw
                          case rel => exact ⟨q + 1, by omega, int_eq (by omega), by rw [hMS.out]; rw [E4.out]; rfl, hGz⟩
                          case measure => simp [intOf]; omega
                      · have e0 : (a.f == fo) = false := by simpa using c0
                        have e4 : cntB fo st m k a = false := by unfold cntB; rw [decide_eq_false c0]; simp
                        have E4 := Lib.hid e4
                        clear e4 c0
                        refine wp_region_held_drew (S := fun w' => w'.cell? ⟨XA, 0, none⟩ = some (.int .i64 a.f) ∧ w'.cell? ⟨XA, 1, none⟩ = some (.int .i64 a.d) ∧ w'.cell? ⟨XA, 2, none⟩ = some (.int .i64 a.s) ∧ w'.cell? ⟨XA, 3, none⟩ = some (.int .i64 a.u) ∧ w'.cell? ⟨XA, 36, none⟩ = some (.int .i64 a.r) ∧ w'.cell? ⟨XA, 37, none⟩ = some (.int .i64 a.g) ∧ w'.cell? ⟨XM, 0, none⟩ = some (.int .i64 m.d) ∧ w'.cell? ⟨XM, 2, none⟩ = some (.int .i64 m.ver) ∧ Gr WD none w') (by kernel_rfl) (qs_all hXA hXMm hXD ha ((Gr.refl WD none).drew)) (fun hS => ?_)
                        refine wpAnyH_take (i := 0) (oi := { dst := some 123, op := _, type := _, pos := _, after := _, guard := _ }) (v := ?v0_960) rfl (by kernel_rfl) (by kernel_rfl) (by kernel_rfl) (fun _ _ _ h => h) (Or.inl ⟨by rfl, ?h0_960⟩) hS ?r0_960
                        case h0_960 => intro w0 hw0; obtain ⟨s0, s1, s2, s3, s4, s5, s6, s7, s8⟩ := hw0; go_simp; try with_reducible rfl
                        simp only [Act.put, List.setIfInBounds_toArray, List.set_cons_zero, List.set_cons_succ]
                        refine wpAnyH_take (i := 1) (oi := { dst := some 124, op := _, type := _, pos := _, after := _, guard := _ }) (v := ?v1_963) rfl (by kernel_rfl) (by kernel_rfl) (by kernel_rfl) (fun _ _ _ h => h) (Or.inl ⟨by rfl, ?h1_963⟩) hS ?r1_963
                        case h1_963 => intro w0 hw0; obtain ⟨s0, s1, s2, s3, s4, s5, s6, s7, s8⟩ := hw0; go_simp; try with_reducible rfl
                        simp only [Act.put, List.setIfInBounds_toArray, List.set_cons_zero, List.set_cons_succ]
                        refine wpAnyH_take (i := 2) (oi := { dst := some 125, op := _, type := _, pos := _, after := _, guard := _ }) (v := ?v2_966) rfl (by kernel_rfl) (by kernel_rfl) (by kernel_rfl) (fun _ _ _ h => h) (Or.inl ⟨by rfl, ?h2_966⟩) hS ?r2_966
                        case h2_966 => intro w0 hw0; obtain ⟨s0, s1, s2, s3, s4, s5, s6, s7, s8⟩ := hw0; go_simp; try with_reducible rfl
                        simp only [Act.put, List.setIfInBounds_toArray, List.set_cons_zero, List.set_cons_succ]
                        refine wpAnyH_take (i := 3) (oi := { dst := some 126, op := _, type := _, pos := _, after := _, guard := _ }) (v := ?v3_969) rfl (by kernel_rfl) (by kernel_rfl) (by kernel_rfl) (fun _ _ _ h => h) (Or.inl ⟨by rfl, ?h3_969⟩) hS ?r3_969
                        case h3_969 => intro w0 hw0; obtain ⟨s0, s1, s2, s3, s4, s5, s6, s7, s8⟩ := hw0; go_simp; try with_reducible rfl
                        simp only [Act.put, List.setIfInBounds_toArray, List.set_cons_zero, List.set_cons_succ]
                        refine wpAnyH_take (i := 4) (oi := { dst := some 127, op := _, type := _, pos := _, after := _, guard := _ }) (v := ?v4_972) rfl (by kernel_rfl) (by kernel_rfl) (by kernel_rfl) (fun _ _ _ h => h) (Or.inl ⟨by rfl, ?h4_972⟩) hS ?r4_972
                        case h4_972 => intro w0 hw0; obtain ⟨s0, s1, s2, s3, s4, s5, s6, s7, s8⟩ := hw0; go_simp; try with_reducible rfl
                        simp only [Act.put, List.setIfInBounds_toArray, List.set_cons_zero, List.set_cons_succ]
                        refine wpAnyH_take (i := 5) (oi := { dst := some 128, op := _, type := _, pos := _, after := _, guard := _ }) (v := ?v5_975) rfl (by kernel_rfl) (by kernel_rfl) (by kernel_rfl) (fun _ _ _ h => h) (Or.inl ⟨by rfl, ?h5_975⟩) hS ?r5_975
                        case h5_975 => intro w0 hw0; obtain ⟨s0, s1, s2, s3, s4, s5, s6, s7, s8⟩ := hw0; go_simp; try with_reducible rfl
                        simp only [Act.put, List.setIfInBounds_toArray, List.set_cons_zero, List.set_cons_succ]
                        refine wpAnyH_take (i := 6) (oi := { dst := some 129, op := _, type := _, pos := _, after := _, guard := _ }) (v := ?v6_978) rfl (by kernel_rfl) (by kernel_rfl) (by kernel_rfl) (fun _ _ _ h => h) (Or.inl ⟨by rfl, ?h6_978⟩) hS ?r6_978
                        case h6_978 => intro w0 hw0; obtain ⟨s0, s1, s2, s3, s4, s5, s6, s7, s8⟩ := hw0; go_simp; try with_reducible rfl
                        simp only [Act.put, List.setIfInBounds_toArray, List.set_cons_zero, List.set_cons_succ]
                        refine wpAnyH_take (i := 7) (oi := { dst := some 130, op := _, type := _, pos := _, after := _, guard := _ }) (v := ?v7_981) rfl (by kernel_rfl) (by kernel_rfl) (by kernel_rfl) (fun _ _ _ h => h) (Or.inl ⟨by rfl, ?h7_981⟩) hS ?r7_981
                        case h7_981 => intro w0 hw0; obtain ⟨s0, s1, s2, s3, s4, s5, s6, s7, s8⟩ := hw0; go_simp; try with_reducible rfl
                        simp only [Act.put, List.setIfInBounds_toArray, List.set_cons_zero, List.set_cons_succ]
                        refine wpAnyH_take (i := 8) (oi := { dst := some 131, op := _, type := _, pos := _, after := _, guard := _ }) (v := ?v8_984) rfl (by kernel_rfl) (by kernel_rfl) (by kernel_rfl) (fun _ _ _ h => h) (Or.inl ⟨by rfl, ?h8_984⟩) hS ?r8_984
                        case h8_984 => intro w0 hw0; obtain ⟨s0, s1, s2, s3, s4, s5, s6, s7, s8⟩ := hw0; go_simp; try with_reducible rfl
                        simp only [Act.put, List.setIfInBounds_toArray, List.set_cons_zero, List.set_cons_succ]
                        refine wpAnyH_take (i := 9) (oi := { dst := some 132, op := _, type := _, pos := _, after := _, guard := _ }) (v := ?v9_987) rfl (by kernel_rfl) (by kernel_rfl) (by kernel_rfl) (fun _ _ _ h => h) (Or.inl ⟨by rfl, ?h9_987⟩) hS ?r9_987
                        case h9_987 => intro w0 hw0; obtain ⟨s0, s1, s2, s3, s4, s5, s6, s7, s8⟩ := hw0; go_simp; try with_reducible rfl
                        simp only [Act.put, List.setIfInBounds_toArray, List.set_cons_zero, List.set_cons_succ]
                        refine wpAnyH_take (i := 10) (oi := { dst := some 133, op := _, type := _, pos := _, after := _, guard := _ }) (v := ?v10_990) rfl (by kernel_rfl) (by kernel_rfl) (by kernel_rfl) (fun _ _ _ h => h) (Or.inl ⟨by rfl, ?h10_990⟩) hS ?r10_990
                        case h10_990 => intro w0 hw0; obtain ⟨s0, s1, s2, s3, s4, s5, s6, s7, s8⟩ := hw0; go_simp; try with_reducible rfl
                        simp only [Act.put, List.setIfInBounds_toArray, List.set_cons_zero, List.set_cons_succ]
                        refine wpAnyH_take (i := 11) (oi := { dst := some 134, op := _, type := _, pos := _, after := _, guard := _ }) (v := undef) rfl (by kernel_rfl) (by kernel_rfl) (by kernel_rfl) (fun _ _ _ h => h) (Or.inr ⟨by rfl, rfl⟩) hS ?r11_993
                        simp only [Act.put, List.setIfInBounds_toArray, List.set_cons_zero, List.set_cons_succ]
                        refine wpAnyH_take (i := 12) (oi := { dst := some 135, op := _, type := _, pos := _, after := _, guard := _ }) (v := undef) rfl (by kernel_rfl) (by kernel_rfl) (by kernel_rfl) (fun _ _ _ h => h) (Or.inr ⟨by rfl, rfl⟩) hS ?r12_995
                        simp only [Act.put, List.setIfInBounds_toArray, List.set_cons_zero, List.set_cons_succ]
                        refine wpAnyH_take (i := 13) (oi := { dst := some 136, op := _, type := _, pos := _, after := _, guard := _ }) (v := undef) rfl (by kernel_rfl) (by kernel_rfl) (by kernel_rfl) (fun _ _ _ h => h) (Or.inr ⟨by rfl, rfl⟩) hS ?r13_997
                        simp only [Act.put, List.setIfInBounds_toArray, List.set_cons_zero, List.set_cons_succ]
                        refine wpAnyH_take (i := 14) (oi := { dst := some 137, op := _, type := _, pos := _, after := _, guard := _ }) (v := undef) rfl (by kernel_rfl) (by kernel_rfl) (by kernel_rfl) (fun _ _ _ h => h) (Or.inr ⟨by rfl, rfl⟩) hS ?r14_999
                        simp only [Act.put, List.setIfInBounds_toArray, List.set_cons_zero, List.set_cons_succ]
                        refine wpAnyH_take (i := 15) (oi := { dst := some 138, op := _, type := _, pos := _, after := _, guard := _ }) (v := ?v15_1001) rfl (by kernel_rfl) (by kernel_rfl) (by kernel_rfl) (fun _ _ _ h => h) (Or.inl ⟨by rfl, ?h15_1001⟩) hS ?r15_1001
                        case h15_1001 => intro w0 hw0; obtain ⟨s0, s1, s2, s3, s4, s5, s6, s7, s8⟩ := hw0; go_simp; try with_reducible rfl
                        simp only [Act.put, List.setIfInBounds_toArray, List.set_cons_zero, List.set_cons_succ]
                        refine wpAnyH_take (i := 16) (oi := { dst := some 139, op := _, type := _, pos := _, after := _, guard := _ }) (v := ?v16_1004) rfl (by kernel_rfl) (by kernel_rfl) (by kernel_rfl) (fun _ _ _ h => h) (Or.inl ⟨by rfl, ?h16_1004⟩) hS ?r16_1004
                        case h16_1004 => intro w0 hw0; obtain ⟨s0, s1, s2, s3, s4, s5, s6, s7, s8⟩ := hw0; go_simp; try with_reducible rfl
                        simp only [Act.put, List.setIfInBounds_toArray, List.set_cons_zero, List.set_cons_succ]
                        refine wpAnyH_take (i := 17) (oi := { dst := some 140, op := _, type := _, pos := _, after := _, guard := _ }) (v := undef) rfl (by kernel_rfl) (by kernel_rfl) (by kernel_rfl) (fun _ _ _ h => h) (Or.inr ⟨by rfl, rfl⟩) hS ?r17_1007
                        simp only [Act.put, List.setIfInBounds_toArray, List.set_cons_zero, List.set_cons_succ]
                        refine wpAnyH_take (i := 18) (oi := { dst := some 141, op := _, type := _, pos := _, after := _, guard := _ }) (v := undef) rfl (by kernel_rfl) (by kernel_rfl) (by kernel_rfl) (fun _ _ _ h => h) (Or.inr ⟨by rfl, rfl⟩) hS ?r18_1009
                        simp only [Act.put, List.setIfInBounds_toArray, List.set_cons_zero, List.set_cons_succ]
                        refine wpAnyH_take (i := 19) (oi := { dst := some 142, op := _, type := _, pos := _, after := _, guard := _ }) (v := undef) rfl (by kernel_rfl) (by kernel_rfl) (by kernel_rfl) (fun _ _ _ h => h) (Or.inr ⟨by rfl, rfl⟩) hS ?r19_1011
                        simp only [Act.put, List.setIfInBounds_toArray, List.set_cons_zero, List.set_cons_succ]
                        refine wpAnyH_take (i := 20) (oi := { dst := some 143, op := _, type := _, pos := _, after := _, guard := _ }) (v := undef) rfl (by kernel_rfl) (by kernel_rfl) (by kernel_rfl) (fun _ _ _ h => h) (Or.inr ⟨by rfl, rfl⟩) hS ?r20_1013
                        simp only [Act.put, List.setIfInBounds_toArray, List.set_cons_zero, List.set_cons_succ]
                        refine wpAnyH_take (i := 21) (oi := { dst := some 144, op := _, type := _, pos := _, after := _, guard := _ }) (v := undef) rfl (by kernel_rfl) (by kernel_rfl) (by kernel_rfl) (fun _ _ _ h => h) (Or.inr ⟨by rfl, rfl⟩) hS ?r21_1015
                        simp only [Act.put, List.setIfInBounds_toArray, List.set_cons_zero, List.set_cons_succ]
                        refine wpAnyH_take (i := 22) (oi := { dst := some 145, op := _, type := _, pos := _, after := _, guard := _ }) (v := ?v22_1017) rfl (by kernel_rfl) (by kernel_rfl) (by kernel_rfl) (fun _ _ _ h => h) (Or.inl ⟨by rfl, ?h22_1017⟩) hS ?r22_1017
                        case h22_1017 => intro w0 hw0; obtain ⟨s0, s1, s2, s3, s4, s5, s6, s7, s8⟩ := hw0; go_simp; try with_reducible rfl
                        simp only [Act.put, List.setIfInBounds_toArray, List.set_cons_zero, List.set_cons_succ]
                        refine wpAnyH_take (i := 23) (oi := { dst := some 146, op := _, type := _, pos := _, after := _, guard := _ }) (v := ?v23_1020) rfl (by kernel_rfl) (by kernel_rfl) (by kernel_rfl) (fun _ _ _ h => h) (Or.inl ⟨by rfl, ?h23_1020⟩) hS ?r23_1020
                        case h23_1020 => intro w0 hw0; obtain ⟨s0, s1, s2, s3, s4, s5, s6, s7, s8⟩ := hw0; go_simp; try with_reducible rfl
                        simp only [Act.put, List.setIfInBounds_toArray, List.set_cons_zero, List.set_cons_succ]
                        refine wpAnyH_take (i := 24) (oi := { dst := some 147, op := _, type := _, pos := _, after := _, guard := _ }) (v := undef) rfl (by kernel_rfl) (by kernel_rfl) (by kernel_rfl) (fun _ _ _ h => h) (Or.inr ⟨by rfl, rfl⟩) hS ?r24_1023
                        simp only [Act.put, List.setIfInBounds_toArray, List.set_cons_zero, List.set_cons_succ]
                        refine wpAnyH_take (i := 25) (oi := { dst := some 148, op := _, type := _, pos := _, after := _, guard := _ }) (v := undef) rfl (by kernel_rfl) (by kernel_rfl) (by kernel_rfl) (fun _ _ _ h => h) (Or.inr ⟨by rfl, rfl⟩) hS ?r25_1025
                        simp only [Act.put, List.setIfInBounds_toArray, List.set_cons_zero, List.set_cons_succ]
                        refine wpAnyH_take (i := 26) (oi := { dst := some 149, op := _, type := _, pos := _, after := _, guard := _ }) (v := undef) rfl (by kernel_rfl) (by kernel_rfl) (by kernel_rfl) (fun _ _ _ h => h) (Or.inr ⟨by rfl, rfl⟩) hS ?r26_1027
                        simp only [Act.put, List.setIfInBounds_toArray, List.set_cons_zero, List.set_cons_succ]
                        refine wpAnyH_take (i := 27) (oi := { dst := some 150, op := _, type := _, pos := _, after := _, guard := _ }) (v := undef) rfl (by kernel_rfl) (by kernel_rfl) (by kernel_rfl) (fun _ _ _ h => h) (Or.inr ⟨by rfl, rfl⟩) hS ?r27_1029
                        simp only [Act.put, List.setIfInBounds_toArray, List.set_cons_zero, List.set_cons_succ]
                        refine wpAnyH_take (i := 28) (oi := { dst := some 151, op := _, type := _, pos := _, after := _, guard := _ }) (v := ?v28_1031) rfl (by kernel_rfl) (by kernel_rfl) (by kernel_rfl) (fun _ _ _ h => h) (Or.inl ⟨by rfl, ?h28_1031⟩) hS ?r28_1031
                        case h28_1031 => intro w0 hw0; obtain ⟨s0, s1, s2, s3, s4, s5, s6, s7, s8⟩ := hw0; go_simp; try with_reducible rfl
                        simp only [Act.put, List.setIfInBounds_toArray, List.set_cons_zero, List.set_cons_succ]
                        refine wpAnyH_take (i := 29) (oi := { dst := some 152, op := _, type := _, pos := _, after := _, guard := _ }) (v := ?v29_1034) rfl (by kernel_rfl) (by kernel_rfl) (by kernel_rfl) (fun _ _ _ h => h) (Or.inl ⟨by rfl, ?h29_1034⟩) hS ?r29_1034
                        case h29_1034 => intro w0 hw0; obtain ⟨s0, s1, s2, s3, s4, s5, s6, s7, s8⟩ := hw0; go_simp; try with_reducible rfl
                        simp only [Act.put, List.setIfInBounds_toArray, List.set_cons_zero, List.set_cons_succ]
                        refine wpAnyH_take (i := 30) (oi := { dst := some 153, op := _, type := _, pos := _, after := _, guard := _ }) (v := undef) rfl (by kernel_rfl) (by kernel_rfl) (by kernel_rfl) (fun _ _ _ h => h) (Or.inr ⟨by rfl, rfl⟩) hS ?r30_1037
                        simp only [Act.put, List.setIfInBounds_toArray, List.set_cons_zero, List.set_cons_succ]
                        refine wpAnyH_take (i := 31) (oi := { dst := some 154, op := _, type := _, pos := _, after := _, guard := _ }) (v := undef) rfl (by kernel_rfl) (by kernel_rfl) (by kernel_rfl) (fun _ _ _ h => h) (Or.inr ⟨by rfl, rfl⟩) hS ?r31_1039
                        simp only [Act.put, List.setIfInBounds_toArray, List.set_cons_zero, List.set_cons_succ]
                        refine wpAnyH_take (i := 32) (oi := { dst := some 155, op := _, type := _, pos := _, after := _, guard := _ }) (v := undef) rfl (by kernel_rfl) (by kernel_rfl) (by kernel_rfl) (fun _ _ _ h => h) (Or.inr ⟨by rfl, rfl⟩) hS ?r32_1041
                        simp only [Act.put, List.setIfInBounds_toArray, List.set_cons_zero, List.set_cons_succ]
                        refine wpAnyH_take (i := 33) (oi := { dst := some 156, op := _, type := _, pos := _, after := _, guard := _ }) (v := undef) rfl (by kernel_rfl) (by kernel_rfl) (by kernel_rfl) (fun _ _ _ h => h) (Or.inr ⟨by rfl, rfl⟩) hS ?r33_1043
                        simp only [Act.put, List.setIfInBounds_toArray, List.set_cons_zero, List.set_cons_succ]
                        refine wpAnyH_take (i := 34) (oi := { dst := some 157, op := _, type := _, pos := _, after := _, guard := _ }) (v := undef) rfl (by kernel_rfl) (by kernel_rfl) (by kernel_rfl) (fun _ _ _ h => h) (Or.inr ⟨by rfl, rfl⟩) hS ?r34_1045
                        simp only [Act.put, List.setIfInBounds_toArray, List.set_cons_zero, List.set_cons_succ]
                        refine wpAnyH_take (i := 35) (oi := { dst := some 158, op := _, type := _, pos := _, after := _, guard := _ }) (v := undef) rfl (by kernel_rfl) (by kernel_rfl) (by kernel_rfl) (fun _ _ _ h => h) (Or.inr ⟨by rfl, rfl⟩) hS ?r35_1047
                        simp only [Act.put, List.setIfInBounds_toArray, List.set_cons_zero, List.set_cons_succ]
                        refine wpAnyH_take (i := 36) (oi := { dst := some 159, op := _, type := _, pos := _, after := _, guard := _ }) (v := ?v36_1049) rfl (by kernel_rfl) (by kernel_rfl) (by kernel_rfl) (fun _ _ _ h => h) (Or.inl ⟨by rfl, ?h36_1049⟩) hS ?r36_1049
                        case h36_1049 => intro w0 hw0; obtain ⟨s0, s1, s2, s3, s4, s5, s6, s7, s8⟩ := hw0; go_simp; try with_reducible rfl
                        simp only [Act.put, List.setIfInBounds_toArray, List.set_cons_zero, List.set_cons_succ]
                        refine wpAnyH_take (i := 37) (oi := { dst := some 160, op := _, type := _, pos := _, after := _, guard := _ }) (v := ?v37_1052) rfl (by kernel_rfl) (by kernel_rfl) (by kernel_rfl) (fun _ _ _ h => h) (Or.inl ⟨by rfl, ?h37_1052⟩) hS ?r37_1052
                        case h37_1052 => intro w0 hw0; obtain ⟨s0, s1, s2, s3, s4, s5, s6, s7, s8⟩ := hw0; go_simp; try with_reducible rfl
                        simp only [Act.put, List.setIfInBounds_toArray, List.set_cons_zero, List.set_cons_succ]
                        refine wpAnyH_take (i := 38) (oi := { dst := some 18, op := _, type := _, pos := _, after := _, guard := _ }) (v := ?v38_1055) rfl (by kernel_rfl) (by kernel_rfl) (by kernel_rfl) (fun _ _ _ h => h) (Or.inl ⟨by rfl, ?h38_1055⟩) hS ?r38_1055
                        case h38_1055 => intro w0 hw0; obtain ⟨s0, s1, s2, s3, s4, s5, s6, s7, s8⟩ := hw0; go_simp; try with_reducible rfl
                        simp only [Act.put, List.setIfInBounds_toArray, List.set_cons_zero, List.set_cons_succ]
                        refine wpAnyH_done (by kernel_rfl) ?_ _
                        go_wp2_with fail
                        go_roundw
                        case rel => exact ⟨q + 1, by omega, int_eq (by omega), by rw [hMS.out]; rw [E4.out]; rfl, hGz⟩
                        case measure => simp [intOf]; omega
                    -- tail]
                  · obtain rfl : q = l.length := by omega
                    rw [List.take_length, HANY.out]
                    clear hql
                    have hGr := hGn.trans hGq
                    go_wp2_with fail
                    go_roundw
                    case rel => exact ⟨j + 1, by omega, int_eq (by omega), hGr⟩
                    case measure => simp [intOf]; omega
              · obtain rfl : j = ms.length := by omega
                clear hjl
                have hGr := hGa.trans hGm
                go_wp2_with fail
                go_roundw
                case rel => exact ⟨k + 1, by omega, int_eq (by omega), hGr⟩
                case measure => simp [intOf]; omega
          · by_cases hgg : e.gone = true
            · have hmem : ((k : Int) + 1) ∈ wv := Classical.byContradiction fun h => hg ⟨hgg, h⟩
              rw [hgg] at g34
              rw [decide_eq_true hmem] at hlk
              clear hg hmem hgg
              go_wp2_with fail
              go_roundw
              case rel => exact ⟨k + 1, by omega, int_eq (by omega), hGa⟩
              case measure => simp [intOf]; omega
            · rw [Bool.eq_false_iff.2 hgg] at g34
              clear hg hgg
              go_wp2_with fail
              go_roundw
              case rel => exact ⟨k + 1, by omega, int_eq (by omega), hGa⟩
              case measure => simp [intOf]; omega
        · obtain rfl : k = es.length := by omega
          clear hlt
          go_wp2_with fail
          go_ret
          exact ⟨rfl, hG6.trans hG⟩
end Go.Proofs.YtjibmhmaoegcnaaDoor
