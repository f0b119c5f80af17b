/- A table's names, in their order; how many there are. -/
import Derived.Test.YtleogddijlabdaaDoorTrkC
import Derived.Test.YtleogddijlabdaaDoorIter
set_option linter.unusedSimpArgs false
set_option linter.unusedVariables false
namespace Go.Proofs.YtleogddijlabdaaDoor
open Go.RowKit Go.Maps Go.Sort

theorem MapF.keys {w : World} {mb n : Nat} {F : List UInt8 → Option Nat} {D : DataW Value} (h : MapF w mb n F D) : (strKeys D).Nodup ∧ (∀ x, x ∈ strKeys D ↔ F x ≠ none) ∧ Maps.size D ≤ n := by
  obtain ⟨es, hD, hpw, _⟩ := h.own.entries keyed
  obtain ⟨es', hD', hko⟩ := h.own.keysOf
  have hee : es = es' := by rw [hD] at hD'; simpa using hD'
  subst hee
  have hstr : ∀ p ∈ es, ∃ x, p.1 = .string x := fun p hp => by
    obtain ⟨v, hv⟩ := hko p hp
    obtain ⟨x, _, hx, _⟩ := Maps.keyOf_str Tryd.underlying9 hv
    exact ⟨x, hx⟩
  have hmem : ∀ x, x ∈ strKeys D ↔ Maps.has D (.string x) = true := fun x => by
    subst hD
    rw [has_eq, List.any_eq_true]
    show x ∈ es.map (fun p => strOf p.1) ↔ _
    rw [List.mem_map]
    constructor
    · rintro ⟨p, hp', rfl⟩
      obtain ⟨a, ha⟩ := hstr p hp'
      exact ⟨p, hp', by rw [ha]; simp [Lit.sameKey, strOf]⟩
    · rintro ⟨p, hp', hs⟩
      obtain ⟨a, ha⟩ := hstr p hp'
      rw [ha] at hs
      exact ⟨p, hp', by rw [ha]; simpa [Lit.sameKey, strOf] using hs⟩
  refine ⟨?_, fun x => ?_, ?_⟩
  · subst hD
    show (es.map fun p => strOf p.1).Nodup
    refine List.pairwise_map.2 (hpw.imp_of_mem fun {p q} hp' hq' hne e => hne ?_)
    obtain ⟨a, ha⟩ := hstr p hp'
    obtain ⟨b, hb⟩ := hstr q hq'
    rw [ha, hb] at e ⊢
    exact congrArg _ e
  · rw [hmem, h.has]; cases F x <;> simp
  · obtain ⟨es2, clock, _, _, hs, hD2⟩ := h.own
    rw [hD2, size_eq, length_sorted]; simpa using hs

/-- Sorted by their bytes, none twice. -/
def Rising (l : List (List UInt8)) : Prop := l.Pairwise (fun a b => a ≤ b ∧ a ≠ b)

theorem rising_sort {l : List (List UInt8)} (h : l.Nodup) : Rising (l.mergeSort leB) := by
  have tr : ∀ a b c : List UInt8, leB a b = true → leB b c = true → leB a c = true := fun a b c h1 h2 => by simp only [leB, decide_eq_true_eq] at *; exact List.le_trans h1 h2
  have to : ∀ a b : List UInt8, (leB a b || leB b a) = true := fun a b => by simp only [leB, Bool.or_eq_true, decide_eq_true_eq]; exact List.le_total a b
  have h1 := List.pairwise_mergeSort tr to l
  have h2 : (l.mergeSort leB).Nodup := (List.mergeSort_perm l leB).nodup_iff.2 h
  exact (h1.and h2).imp fun ⟨a, b⟩ => ⟨by simpa [leB] using a, b⟩

/-- A slice of strings. -/
def SSl (w : World) (v : Value) (l : List (List UInt8)) : Prop := CSl w v l.length (l.map encStr)

def NamesPost (w w' : World) (T : List UInt8 → Nat → Option NoteV) (now : Int) (e : Ending) : Prop :=
  ∃ v ns, e = .returned v ∧ SSl w' v ns ∧ Ext w w' ∧ Rising ns ∧ ∀ k, k ∈ ns ↔ nodesL T k now ≠ []

theorem info_str : (Tryd.prog.info? 9).map (fun i => (i.zero, i.size, i.bytes)) = some (some (.string ByteArray.empty), 1, 16) := by kernel_rfl

def keepN (T : List UInt8 → Nat → Option NoteV) (now : Int) (k : List UInt8) : Bool := !(nodesL T k now).isEmpty

def NamesRel (w : World) (T : List UInt8 → Nat → Option NoteV) (now : Int) (L : List (List UInt8)) (v iv : Value) (wr : World) : Prop :=
  ∃ i : Nat, iv = .int .i64 i ∧ i ≤ L.length ∧ wr.ownsRow w.heap.size 9 1 v ((L.take i).filter (keepN T now)).length (((L.take i).filter (keepN T now)).map encStr) ∧ Ext w wr

theorem filter_snoc {L : List (List UInt8)} {p : List UInt8 → Bool} {i : Nat} (h : i < L.length) : (L.take (i + 1)).filter p = (L.take i).filter p ++ (if p L[i] then [L[i]] else []) := by
  rw [List.take_succ_eq_append_getElem h, List.filter_append]
  congr 1
  simp [List.filter_cons]

set_option maxRecDepth 100000 in
set_option maxHeartbeats 2000000 in
theorem Names_at {S : Nat → Prop} {tb mb n : Nat} {room : Int} {F : List UInt8 → Option Nat} {D : DataW Value} {T : List UInt8 → Nat → Option NoteV} (hn : n ≤ 1000) (now : Int) (w : World) (h : TabAt S w tb mb n room F D T) :
    Calls Tryd.prog 10 #[.pointer (some ⟨tb, 0, none⟩), .int .i64 now] w fun e w' => NamesPost w w' T now e := by
  have H := Lib.hid h
  have hmp := h.mp
  obtain ⟨hnd, hmem, hsz⟩ := h.map.keys
  have hown := h.map.own
  have hK : ∀ w, Calls Tryd.prog 24 #[.map (some mb)] w fun e w' => e = .returned (.func (.func 41) #[] #[.pointer (some ⟨w.heap.size, 0, none⟩)]) ∧ w' = w.alloc (.cells #[.map (some mb)] 59) :=
    fun w => callsIn_wide.1 (Tryd.maps_Keys_24 (some mb) w)
  have hS := callsIn_wide.1 (Tryd.slices_Sorted_keys_23_24 mb n D R0 w hown (by unfold maxLen; omega) (by omega))
  have HND := Lib.hid hnd
  have HMEM := Lib.hid hmem
  have HS := Lib.hid hS
  clear h hnd hmem hown hS
  go_enter Tryd.func10, Tryd.ntmps10
  go_wp2_with fail
  refine (hK _).mono ?_
  rintro e w1 ⟨rfl, rfl⟩
  go_wp2_with fail
  refine HS.out.mono ?_
  rintro e w1 ⟨v, ss, rfl, hperm, hrow, hnil, hb⟩
  have hcs : SSl w1 v (ss.mergeSort leB) := by
    have h0 := CSl.of_own hrow
    have hl : (ss.mergeSort leB).length = ss.length := List.length_mergeSort ss
    unfold SSl; rw [hl]; exact h0
  have hris : Rising (ss.mergeSort leB) := rising_sort (hperm.nodup_iff.2 HND.out)
  have hml : ∀ x, x ∈ ss.mergeSort leB ↔ F x ≠ none := fun x => by rw [(List.mergeSort_perm ss leB).mem_iff, hperm.mem_iff]; exact HMEM.out x
  have hlen : (ss.mergeSort leB).length ≤ 1000 := by
    have h1 : (ss.mergeSort leB).length = ss.length := List.length_mergeSort ss
    have h2 : ss.length = (strKeys D).length := hperm.length_eq
    have h3 : (strKeys D).length ≤ Maps.size D := by
      unfold strKeys Maps.size; cases D <;> simp
    omega
  have hxw : Ext w w1 := (Ext.refl w).alloc (.cells #[.map (some mb)] 59) |>.trans hb
  generalize ss.mergeSort leB = L at *
  obtain ⟨a, cp, rfl⟩ := hcs.shape
  have HCS := Lib.hid hcs
  have HRIS := Lib.hid hris
  have HML := Lib.hid hml
  have HXW := Lib.hid hxw
  clear hrow hnil hb hperm hcs hris hml hxw
  go_wp2_with fail
  obtain ⟨wo, rfl⟩ : ∃ wo : World, wo = w1 := ⟨_, rfl⟩
  have hwo := HXW.out.size
  go_loopw [5, 17, 7] (fun v iv _ wr => NamesRel wo T now L v iv wr) (fun _ i _ _ => L.length - (intOf i).toNat)
  case atStart => exact ⟨0, rfl, Nat.zero_le _, ⟨rfl, Or.inl ⟨rfl, rfl⟩⟩, Ext.refl _⟩
  case round =>
    obtain ⟨i, rfl, hi, ho, hx⟩ := hrel
    have HO := Lib.hid ho
    have HX := Lib.hid hx
    clear ho hx
    by_cases hlt : i < L.length
    · have hc := HCS.out.ext HX.out
      rcases hc with ⟨h0, _⟩ | ⟨b, off, cp', hv, hc⟩
      · omega
      · cases hv
        have c1 := hc i _ (by rw [List.getElem?_map, List.getElem?_eq_getElem hlt]; rfl)
        have hFk := (HML.out L[i]).1 (List.getElem_mem hlt)
        have hsz1 : (⟨L[i].toArray⟩ : ByteArray).size ≤ 1000 := by
          have := H.out.keys _ hFk
          show L[i].toArray.size ≤ 1000
          rw [List.size_toArray]; exact this
        have hnd := Nodes_at (⟨L[i].toArray⟩ : ByteArray) hsz1 now wr (H.out.ext (HXW.out.trans HX.out))
        have hfs := filter_snoc (p := keepN T now) hlt
        rw [show (⟨L[i].toArray⟩ : ByteArray).data.toList = L[i] from by simp] at hnd
        have hkeep : keepN T now L[i] = !(nodesL T L[i] now).isEmpty := rfl
        simp only [encStr] at c1
        generalize hLi : L[i] = k at *
        have i1 : (0 : Int) ≤ (i : Int) := by omega
        have i2 : (i : Int) < (L.length : Int) := by omega
        have HFS := Lib.hid hfs
        have HKE := Lib.hid hkeep
        have HN := Lib.hid hnd
        clear hfs hkeep hnd hLi hc hFk hsz1
        have hfl : ((L.take i).filter (keepN T now)).length ≤ 1000 := Nat.le_trans (List.length_filter_le _ _) (by rw [List.length_take]; omega)
        go_wp2_with fail
        refine HN.out.mono ?_
        rintro e w2 ⟨nv, rfl, hnv, hx2⟩
        obtain ⟨na, nc, rfl⟩ := hnv.shape
        have hx3 : Ext wo w2 := HX.out.trans hx2
        have HX3 := Lib.hid hx3
        cases hnl : nodesL T k now with
        | nil =>
          have hnl' := Lib.hid hnl
          clear hnl hnv hx3
          go_wp2_with fail
          go_roundw
          case rel =>
            unfold NamesRel
            refine ⟨i + 1, by go_num, by omega, ?_, HX3.out⟩
            rw [HFS.out, HKE.out, hnl'.out]
            simpa using ownsRow_ext HO.out hx2
          case measure => simp [intOf]; omega
        | cons q l =>
          have hnl' := Lib.hid hnl
          clear hnl hnv hx3
          have hpos : (0 : Int) < ((q :: l).length : Int) := by rw [List.length_cons]; omega
          generalize hql : (q :: l).length = ql at *
          have hql := Lib.hid hql
          have hw2 := HX3.out.size
          have hx2w := hx2.size
          go_wp2_with (at_builtin; refine wp_app rfl _ _ 42 9 rfl Tryd.underlying42 info_str rfl (by decide) (by decide) wo.heap.size _ _ _ [.string ⟨k.toArray⟩] rfl (ownsRow_ext HO.out (by (repeat' (first | exact Ext.refl _ | assumption | (apply Ext.after; assumption) | (refine Ext.alloc ?_ _) | (refine Ext.drew ?_) | (refine Ext.drewN ?_ _) | (refine Ext.setCell ?_ ?_ _) | (simp; done) | (simp; omega) | omega)))) _ rfl rfl (news_of _ _ _) (by simp [Value.oneCell']) (by omega) (by simp; omega) ?_; intro v' w3 hown' hext)
          have hx4 : Ext wo w3 := hext _ (HX3.out.alloc _) (Nat.le_refl _)
          go_wp2_with fail
          go_roundw
          case rel =>
            unfold NamesRel
            refine ⟨i + 1, by go_num, by omega, ?_, hx4⟩
            rw [HFS.out, HKE.out, hnl'.out]
            simpa [encStr] using hown'
          case measure => simp [intOf]; omega
    · obtain rfl : i = L.length := by omega
      have hfin : Hid (∀ k, k ∈ L.filter (keepN T now) ↔ nodesL T k now ≠ []) := fun k => by
        rw [List.mem_filter, HML.out k]
        constructor
        · rintro ⟨_, h2⟩ h3
          simp [keepN, h3] at h2
        · intro h1
          refine ⟨fun h2 => h1 ?_, by simp [keepN, h1]⟩
          unfold nodesL; rw [countL_none (H.out.no _ h2)]; split <;> rfl
      go_wp2_with fail
      go_ret
      refine ⟨_, L.filter (keepN T now), rfl, ?_, HXW.out.trans HX.out, HRIS.out.sublist List.filter_sublist, hfin.out⟩
      have := CSl.of_own HO.out
      rw [List.take_length] at this; exact this

theorem Names_any {S : Nat → Prop} {tb n : Nat} {room : Int} {T : List UInt8 → Nat → Option NoteV} (hn : n ≤ 1000) (now : Int) (w : World) (h : Tab S w tb n room T) :
    Calls Tryd.prog 10 #[.pointer (some ⟨tb, 0, none⟩), .int .i64 now] w fun e w' => NamesPost w w' T now e := by
  obtain ⟨mb, F, D, h⟩ := h
  exact Names_at hn now w h

def LenPost (w w' : World) (T : List UInt8 → Nat → Option NoteV) (now : Int) (e : Ending) : Prop :=
  ∃ ns : List (List UInt8), e = .returned (.int .i64 ns.length) ∧ Ext w w' ∧ Rising ns ∧ ∀ k, k ∈ ns ↔ nodesL T k now ≠ []

theorem Len_any {S : Nat → Prop} {tb n : Nat} {room : Int} {T : List UInt8 → Nat → Option NoteV} (hn : n ≤ 1000) (now : Int) (w : World) (h : Tab S w tb n room T) :
    Calls Tryd.prog 12 #[.pointer (some ⟨tb, 0, none⟩), .int .i64 now] w fun e w' => LenPost w w' T now e := by
  have H := Lib.hid h
  clear h
  go_enter Tryd.func12, Tryd.ntmps12
  go_wp2_with fail
  refine (Names_any hn now _ H.out).mono ?_
  rintro e w1 ⟨v, ns, rfl, hs, hx, hr, hm⟩
  obtain ⟨a, c, rfl⟩ := hs.shape
  have HR := Lib.hid hr
  have HM := Lib.hid hm
  clear hr hm hs
  go_wp2_with fail
  go_ret
  exact ⟨ns, rfl, hx, HR.out, HM.out⟩

end Go.Proofs.YtleogddijlabdaaDoor
