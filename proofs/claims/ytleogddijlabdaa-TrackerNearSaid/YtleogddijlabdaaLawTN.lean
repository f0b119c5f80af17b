/- The law TrackerNear, walked. -/
import Derived.Test.YtleogddijlabdaaHasA
set_option linter.unusedSimpArgs false
set_option linter.unusedVariables false
namespace Go.Proofs.Ytleogddijlabdaa
open Go.RowKit Go.Maps

def NearRel (bs : Nat) (wA : World) (tb : Nat) (l : List ActV) (iv : Value) (wr : World) : Prop :=
  ∃ (i n : Nat) (T : List UInt8 → Nat → Option NoteV), iv = .int .i64 i ∧ i ≤ l.length ∧ n ≤ i ∧ TInv bs wA wr tb n 5 T ∧ GoodT T

theorem below_cell {bs : Nat} {wA w' : World} (h : Below bs wA w') {p : Addr} {v : Value} (hp : p.block < bs) (k : wA.cell? p = some v) : w'.cell? p = some v := by
  rw [World.cell?_of_block (w := wA) (h.block p.block hp)]; exact k

set_option maxRecDepth 100000 in
set_option maxHeartbeats 4000000 in
theorem TN_walk (v : Value) (l : List ActV) (x : AskV) (w : World) (hv : ASl w v l) (hl : l.length ≤ 9223372036854775807) :
    Calls Try.prog 6 #[v, x.val] w fun e w' => e = .returned (.bool true) ∧ Ext w w' := by
  obtain ⟨a, cap, rfl⟩ := hv.shape
  obtain ⟨wA, hWA⟩ : ∃ wA : World, w.alloc (.cells x.cells 50) = wA := ⟨_, rfl⟩
  have hxA : Ext w wA := by rw [← hWA]; exact Ext.alloc (Ext.refl _) _
  have hbs : w.heap.size < wA.heap.size := by rw [← hWA]; simp
  have hcx : ∀ j, wA.cell? ⟨w.heap.size, j, none⟩ = x.cells[j]? := fun j => by rw [← hWA]; exact World.cell?_alloc_new w x.cells 50 j
  obtain ⟨bs, hbsE⟩ : ∃ bs : Nat, wA.heap.size = bs := ⟨_, rfl⟩
  have hbs2 : w.heap.size < bs := by omega
  have hLT : ∀ (b i : Nat) (v : Value), w.cell? ⟨b, i, none⟩ = some v → b < bs := fun b i v h => by
    have := World.block_lt_of_cell? w _ h
    simp at this; omega
  have HLT := Lib.hid hLT
  obtain ⟨xn, xt, xx, xy, xk, xw⟩ := x
  have x0 : wA.cell? ⟨w.heap.size, 0, none⟩ = some (.string xn) := hcx 0
  have x1 : wA.cell? ⟨w.heap.size, 1, none⟩ = some (.string xt) := hcx 1
  have x2 : wA.cell? ⟨w.heap.size, 2, none⟩ = some (.int .i64 xx) := hcx 2
  have x3 : wA.cell? ⟨w.heap.size, 3, none⟩ = some (.int .i64 xy) := hcx 3
  have x4 : wA.cell? ⟨w.heap.size, 4, none⟩ = some (.int .i64 xk) := hcx 4
  have x5 : wA.cell? ⟨w.heap.size, 5, none⟩ = some (.int .i64 xw) := hcx 5
  have X0 := Lib.hid x0
  have X1 := Lib.hid x1
  have X2 := Lib.hid x2
  have X3 := Lib.hid x3
  have X4 := Lib.hid x4
  have X5 := Lib.hid x5
  have HXA := Lib.hid hxA
  have HV := Lib.hid hv
  have HWA := Lib.hid hWA
  unfold AskV.cells at HWA
  have HBS := Lib.hid hbsE
  have FIN : Hid (∀ w', Below bs wA w' → Ext w w') := fun w' h => hxA.trans (by rw [← hbsE] at h; exact h)
  have hfw := few_any (.slice a l.length cap) l ⟨xn, xt, xx, xy, xk, xw⟩
  have HFW := Lib.hid hfw
  clear x0 x1 x2 x3 x4 x5 hcx hxA hWA hbs hbsE hLT hv hfw
  unfold AskV.val
  go_enter Try.func6, Try.ntmps6
  go_wp2_with fail
  rw [HWA.out]
  refine (New_inv 5 (by omega) _).mono ?_
  rintro e w1 ⟨tb, rfl, ht⟩
  rw [HBS.out] at ht
  have HT1 := Lib.hid ht
  have HB1 := Lib.hid ht.base
  have x0 := below_cell HB1.out hbs2 X0.out
  have x1 := below_cell HB1.out hbs2 X1.out
  have x2 := below_cell HB1.out hbs2 X2.out
  have x3 := below_cell HB1.out hbs2 X3.out
  have x4 := below_cell HB1.out hbs2 X4.out
  have x5 := below_cell HB1.out hbs2 X5.out
  clear ht
  go_wp2_with fail
  refine (HFW.out _ (HV.out.ext (FIN.out _ HB1.out)) hl).mono ?_
  rintro e w2 ⟨rfl, hx2⟩
  have HT2 := Lib.hid (HT1.out.ext hx2)
  clear hx2 HT1 HB1 x0 x1 x2 x3 x4 x5
  cases hfew : fewB l ⟨xn, xt, xx, xy, xk, xw⟩ with
  | false =>
    go_wp2_with fail
    refine (awake31_any _).mono ?_
    rintro e w3 ⟨rfl, hx3⟩
    have HT3 := Lib.hid (HT2.out.ext hx3)
    clear hx3 HT2
    go_wp2_with fail
    go_ret
    exact ⟨rfl, FIN.out _ HT3.out.base⟩
  | true =>
    obtain ⟨f1, f2, f3, f4⟩ := fewB_true hfew
    have F2 := Lib.hid f2
    clear f2 hfew
    go_wp2_with fail
    refine (awake31_any _).mono ?_
    rintro e w3 ⟨rfl, hx3⟩
    have HT3 := Lib.hid (HT2.out.ext hx3)
    clear hx3 HT2
    go_wp2_with fail
    go_loopw [6] (fun iv wr => NearRel bs wA tb l iv wr) (fun iv _ => l.length - (intOf iv).toNat)
    case atStart => exact ⟨0, 0, _, rfl, by omega, by omega, HT3.out, good_none⟩
    case round =>
      obtain ⟨i, n, T, rfl, hi, hn, ht, hg⟩ := hrel
      have HT := Lib.hid ht
      have HG := Lib.hid hg
      clear ht hg HT3
      by_cases hlt : i < l.length
      · obtain ⟨b, off, rfl, c0, c1, c2, c3, c4, c5, c6⟩ := ASl.cells HV.out hlt
        have r1 : ∀ w', Below bs wA w' → w'.cell? ⟨b, off + i * 7 + 1, none⟩ = some (.int .i64 (actAt l i).now) := fun w' h => below_cell h (HLT.out _ _ _ c1) (HXA.out.cellAt c1)
        have r2 : ∀ w', Below bs wA w' → w'.cell? ⟨b, off + i * 7 + 2, none⟩ = some (.string (actAt l i).note.name) := fun w' h => below_cell h (HLT.out _ _ _ c1) (HXA.out.cellAt c2)
        have r3 : ∀ w', Below bs wA w' → w'.cell? ⟨b, off + i * 7 + 3, none⟩ = some (.int .i64 (actAt l i).note.node) := fun w' h => below_cell h (HLT.out _ _ _ c1) (HXA.out.cellAt c3)
        have r4 : ∀ w', Below bs wA w' → w'.cell? ⟨b, off + i * 7 + 4, none⟩ = some (.int .i64 (actAt l i).note.x) := fun w' h => below_cell h (HLT.out _ _ _ c1) (HXA.out.cellAt c4)
        have r5 : ∀ w', Below bs wA w' → w'.cell? ⟨b, off + i * 7 + 5, none⟩ = some (.int .i64 (actAt l i).note.y) := fun w' h => below_cell h (HLT.out _ _ _ c1) (HXA.out.cellAt c5)
        have r6 : ∀ w', Below bs wA w' → w'.cell? ⟨b, off + i * 7 + 6, none⟩ = some (.int .i64 (actAt l i).note.til) := fun w' h => below_cell h (HLT.out _ _ _ c1) (HXA.out.cellAt c6)
        have i1 : (0 : Int) ≤ (i : Int) := by omega
        have i2 : (i : Int) < (l.length : Int) := by omega
        have hb := HT.out.base
        have hann := fun W h => ann_all (bs := bs) (w0 := wA) (tb := tb) (room := 5) (T := T) (show n ≤ 1000 by omega) (actAt l i).note (actAt l i).now W h
        have HANN := Lib.hid hann
        clear c0 c1 c2 c3 c4 c5 c6 hann
        go_wp2_with fail
        go_region_held3 (fun w' => Below bs wA w') ((first | assumption | (exact ht4.base) | (exact Below.drew (by assumption)))) ((go_at_call 14; refine (HANN.out _ (HT.out.ext ((Ext.refl _).drew))).mono ?_; rintro e w4 ⟨c, T', n', rfl, hR, hn', ht4⟩))
        go_wp2_with fail
        go_roundw
        case rel => exact ⟨i + 1, n', T', by go_num, by omega, by omega, ht4, good_annR HG.out hR⟩
        case measure => simp [intOf]; omega
      · obtain rfl : i = l.length := by omega
        have hb := HT.out.base
        have x0 := below_cell hb hbs2 X0.out
        have x1 := below_cell hb hbs2 X1.out
        have x2 := below_cell hb hbs2 X2.out
        have x3 := below_cell hb hbs2 X3.out
        have x4 := below_cell hb hbs2 X4.out
        have x5 := below_cell hb hbs2 X5.out
        clear hb
        have hxs : xn.size ≤ 1000 := by omega
        go_wp2_with fail
        refine (Find_any xn hxs xx xy xk xw _ HT.out HG.out).mono ?_
        rintro e w4 ⟨hx4, hres⟩
        have HT4 := Lib.hid (HT.out.ext hx4)
        have x0 := hx4.cellAt x0
        have x2 := hx4.cellAt x2
        have x3 := hx4.cellAt x3
        have x4 := hx4.cellAt x4
        have x5 := hx4.cellAt x5
        clear hx4 x1 HT
        rcases hres with ⟨hfb, rfl⟩ | ⟨hfb, hnil, rfl⟩ | ⟨hfb, hne, fv, order, rfl, hord, hisl⟩
        · clear hfb
          go_wp2_with fail
          refine (Nodes_inv xn hxs xw _ HT4.out).mono ?_
          rintro e w5 ⟨nv, rfl, hnv, hx5, ht5⟩
          obtain ⟨na, nc, rfl⟩ := hnv.shape
          have HT5 := Lib.hid ht5
          clear ht5 HT4 hx5 hnv x0 x2 x3 x4 x5
          go_wp2_with fail
          go_ret
          exact ⟨rfl, FIN.out _ HT5.out.base⟩
        · clear hfb hnil
          go_wp2_with fail
          refine (Nodes_inv xn hxs xw _ HT4.out).mono ?_
          rintro e w5 ⟨nv, rfl, hnv, hx5, ht5⟩
          obtain ⟨na, nc, rfl⟩ := hnv.shape
          have HT5 := Lib.hid ht5
          clear ht5 HT4 hx5 hnv x0 x2 x3 x4 x5
          go_wp2_with fail
          go_ret
          exact ⟨rfl, FIN.out _ HT5.out.base⟩
        · obtain ⟨_, _, hk0⟩ := FindB_true hfb
          have hup := nodes_up HG.out xn.data.toList xw
          have hnl := nodes_len T xn.data.toList xw
          have hnod := Nodes_inv xn hxs xw _ HT4.out
          generalize nodesL T xn.data.toList xw = N at *
          obtain ⟨m, rfl⟩ : ∃ m : Nat, xk = (m : Int) := ⟨xk.toNat, by omega⟩
          rw [Int.toNat_natCast] at hisl
          have hnear := fun i j (hi : i < N.length) (hj : j < N.length) => near_law hup hord m hi hj
          have hlen : ((order.take m).map (nodeOf N)).length = min m N.length := by rw [List.length_map, List.length_take, hord.len]
          generalize (order.take m).map (nodeOf N) = K at *
          obtain ⟨fa, fc, rfl⟩ : ∃ a cap, fv = .slice a K.length cap := by
            rcases hisl with ⟨rfl, rfl⟩ | ⟨b, off, cap, rfl, _⟩
            · exact ⟨_, _, rfl⟩
            · exact ⟨_, _, rfl⟩
          have HISL := Lib.hid hisl
          have HNEAR := Lib.hid hnear
          have HNOD := Lib.hid hnod
          have HLEN := Lib.hid hlen
          clear hisl hnear hnod hup hord hne hfb hlen
          go_wp2_with fail
          refine HNOD.out.mono ?_
          rintro e w5 ⟨nv, rfl, hnv, hx5, ht5⟩
          obtain ⟨na, nc, rfl⟩ := hnv.shape
          have HT5 := Lib.hid ht5
          have HNV := Lib.hid hnv
          have HIS5 := Lib.hid (HISL.out.ext hx5)
          have x2 := hx5.cellAt x2
          have x3 := hx5.cellAt x3
          have x4 := hx5.cellAt x4
          clear ht5 HT4 hx5 hnv x0 x5 HNOD HISL
          have hmin : ((min (m : Int) (N.length : Int)) : Int) = (K.length : Int) := by rw [HLEN.out]; omega
          go_wp2_with fail
          clear hmin
          go_loopw [10, 11] (fun iv _ wr => ∃ i : Nat, iv = .int .i64 i ∧ i ≤ N.length ∧ Ext w5 wr) (fun iv _ _ => N.length - (intOf iv).toNat)
          case atStart => exact ⟨0, rfl, by omega, Ext.refl _⟩
          case round =>
            obtain ⟨i, rfl, hi, hx⟩ := hrel
            have HX := Lib.hid hx
            clear hx
            by_cases hlt : i < N.length
            · obtain ⟨lb, loff, lc, hv, hc⟩ := HNV.out.resolve_left (fun h => by have := h.1; omega)
              cases hv
              obtain ⟨c0, c1, c2, c3, c4⟩ := NSl.cells hc hlt
              have C1 := Lib.hid c1
              have C2 := Lib.hid c2
              have C3 := Lib.hid c3
              have HC := Lib.hid hc
              have Y2 := Lib.hid x2
              have Y3 := Lib.hid x3
              clear c0 c1 c2 c3 c4 hc x2 x3 x4
              have i1 : (0 : Int) ≤ (i : Int) := by omega
              have i2 : (i : Int) < (N.length : Int) := by omega
              go_wp2_with fail
              obtain ⟨wo, rfl⟩ : ∃ wo : World, wo = wr := ⟨_, rfl⟩
              go_loopw [11] (fun jv wr => ∃ j : Nat, jv = .int .i64 j ∧ j ≤ N.length ∧ Ext w5 wr) (fun jv _ => N.length - (intOf jv).toNat)
              case atStart => exact ⟨0, rfl, by omega, HX.out⟩
              case round =>
                obtain ⟨j, rfl, hj, hx⟩ := hrel
                have HXJ := Lib.hid hx
                by_cases hltj : j < N.length
                · obtain ⟨c0, c1, c2, c3, c4⟩ := NSl.cells HC.out hltj
                  have d1 := hx.cellAt C1.out
                  have d2 := hx.cellAt C2.out
                  have d3 := hx.cellAt C3.out
                  have e1 := hx.cellAt c1
                  have e2 := hx.cellAt c2
                  have e3 := hx.cellAt c3
                  have j1 : (0 : Int) ≤ (j : Int) := by omega
                  have j2 : (j : Int) < (N.length : Int) := by omega
                  have hn := HNEAR.out i j hlt hltj
                  have hkl : K.length ≤ 16 := by rw [HLEN.out]; omega
                  have hhas := fun n W (h : Ext w5 W) => Has_any _ K n W (HIS5.out.ext h) (by omega)
                  have HHAS := Lib.hid hhas
                  clear c0 c1 c2 c3 c4 hx hhas
                  generalize hA : hasB K (noteAt N i).node = A at *
                  generalize hB : hasB K (noteAt N j).node = B at *
                  have hqi : ∀ W, Ext w5 W → Calls Try.prog 20 #[.slice fa K.length fc, .int .i64 (noteAt N i).node] W fun e w' => e = .returned (.bool A) ∧ w' = W := fun W h => by
                    have := HHAS.out (noteAt N i).node W h
                    rw [hA] at this; exact this
                  have hqj : ∀ W, Ext w5 W → Calls Try.prog 20 #[.slice fa K.length fc, .int .i64 (noteAt N j).node] W fun e w' => e = .returned (.bool B) ∧ w' = W := fun W h => by
                    have := HHAS.out (noteAt N j).node W h
                    rw [hB] at this; exact this
                  have HQI := Lib.hid hqi
                  have HQJ := Lib.hid hqj
                  have HN := Lib.hid hn
                  clear hn hA hB hqi hqj
                  cases A with
                  | false =>
                    go_wp2_with fail
                    go_quiet ((go_at_call 20; exact Calls.quiet_of_same (HQI.out _ (HXJ.out.drewN _))))
                    go_wp2_with fail
                    go_roundw
                    case rel => exact ⟨j + 1, by go_num, by omega, HXJ.out.drewN _⟩
                    case measure => simp [intOf]; omega
                  | true =>
                    cases B with
                    | true =>
                      go_wp2_with fail
                      go_quiet ((first | (go_at_call 20; with_reducible exact Calls.quiet_of_same (HQI.out _ (HXJ.out.drewN _))) | (go_at_call 20; with_reducible exact Calls.quiet_of_same (HQJ.out _ (HXJ.out.drewN _)))))
                      go_wp2_with fail
                      go_roundw
                      case rel => exact ⟨j + 1, by go_num, by omega, HXJ.out.drewN _⟩
                      case measure => simp [intOf]; omega
                    | false =>
                      have hdl := HN.out rfl rfl
                      have hde : decide (dist xx xy (noteAt N j).x (noteAt N j).y < dist xx xy (noteAt N i).x (noteAt N i).y) = false := decide_eq_false (by omega)
                      have rx : ∀ w', Ext wr w' → w'.cell? ⟨w.heap.size, 2, none⟩ = some (.int .i64 xx) := fun w' q => q.cellAt (HXJ.out.cellAt Y2.out)
                      have ry : ∀ w', Ext wr w' → w'.cell? ⟨w.heap.size, 3, none⟩ = some (.int .i64 xy) := fun w' q => q.cellAt (HXJ.out.cellAt Y3.out)
                      have r1 : ∀ w', Ext wr w' → w'.cell? ⟨lb, loff + i * 5 + 1, none⟩ = some (.int .i64 (noteAt N i).node) := fun w' q => q.cellAt d1
                      have r2 : ∀ w', Ext wr w' → w'.cell? ⟨lb, loff + i * 5 + 2, none⟩ = some (.int .i64 (noteAt N i).x) := fun w' q => q.cellAt d2
                      have r3 : ∀ w', Ext wr w' → w'.cell? ⟨lb, loff + i * 5 + 3, none⟩ = some (.int .i64 (noteAt N i).y) := fun w' q => q.cellAt d3
                      have s1 : ∀ w', Ext wr w' → w'.cell? ⟨lb, loff + j * 5 + 1, none⟩ = some (.int .i64 (noteAt N j).node) := fun w' q => q.cellAt e1
                      have s2 : ∀ w', Ext wr w' → w'.cell? ⟨lb, loff + j * 5 + 2, none⟩ = some (.int .i64 (noteAt N j).x) := fun w' q => q.cellAt e2
                      have s3 : ∀ w', Ext wr w' → w'.cell? ⟨lb, loff + j * 5 + 3, none⟩ = some (.int .i64 (noteAt N j).y) := fun w' q => q.cellAt e3
                      clear d1 d2 d3 e1 e2 e3 HN
                      go_wp2_with fail
                      go_region_held3 (fun w' => Ext wr w') ((first | assumption | ((repeat' (first | exact Ext.refl _ | assumption | (apply Ext.after; assumption) | (refine Ext.alloc ?_ _) | (refine Ext.drew ?_) | (refine Ext.drewN ?_ _) | (refine Ext.setCell ?_ ?_ _) | (simp; done) | (simp; omega) | omega)); done))) ((first
                        | (go_at_call 20; (with_reducible refine (HQI.out _ (HXJ.out.trans (by first | assumption | ((repeat' (first | exact Ext.refl _ | assumption | (apply Ext.after; assumption) | (refine Ext.alloc ?_ _) | (refine Ext.drew ?_) | (refine Ext.drewN ?_ _) | (refine Ext.setCell ?_ ?_ _) | (simp; done) | (simp; omega) | omega)); done)))).mono ?_); rintro e w6 ⟨rfl, rfl⟩)
                        | (go_at_call 20; (with_reducible refine (HQJ.out _ (HXJ.out.trans (by first | assumption | ((repeat' (first | exact Ext.refl _ | assumption | (apply Ext.after; assumption) | (refine Ext.alloc ?_ _) | (refine Ext.drew ?_) | (refine Ext.drewN ?_ _) | (refine Ext.setCell ?_ ?_ _) | (simp; done) | (simp; omega) | omega)); done)))).mono ?_); rintro e w6 ⟨rfl, rfl⟩)
                        | (go_at_call 21; refine (rDist_any _ _ _ _ _).mono ?_; rintro e w6 ⟨rfl, hx6⟩)))
                      all_goals
                        go_wp2_with fail
                        go_roundw
                        case rel => exact ⟨j + 1, by go_num, by omega, HXJ.out.trans (by assumption)⟩
                        case measure => simp [intOf]; omega
                · obtain rfl : j = N.length := by omega
                  go_wp2_with fail
                  go_roundw
                  case rel => exact ⟨i + 1, by go_num, by omega, HXJ.out⟩
                  case measure => simp [intOf]; omega
            · obtain rfl : i = N.length := by omega
              go_wp2_with fail
              go_ret
              exact ⟨rfl, FIN.out _ (HT5.out.ext HX.out).base⟩

end Go.Proofs.Ytleogddijlabdaa
