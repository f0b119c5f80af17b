/- The sweep of a table, walked. -/
import Derived.Test.YtleogddijlabdaaDoorTrkF
set_option linter.unusedSimpArgs false
set_option linter.unusedVariables false
namespace Go.Proofs.YtleogddijlabdaaDoor
open Go.RowKit Go.Maps

def Fl (F : List UInt8 → Option Nat) (T : List UInt8 → Nat → Option NoteV) (now : Int) (left : Lit → Bool) (k : List UInt8) : Option Nat :=
  if left (.string k) then F k else if noneB (sweptA (T k) now) then none else F k
def Tl (T : List UInt8 → Nat → Option NoteV) (now : Int) (left : Lit → Bool) (k : List UInt8) : Nat → Option NoteV :=
  if left (.string k) then T k else sweptA (T k) now

structure SwAt (S : Nat → Prop) (w wr : World) (mb r n : Nat) (F : List UInt8 → Option Nat) (T : List UInt8 → Nat → Option NoteV) (now : Int) (Dc : DataW Value) (left : Lit → Bool) (cnt : Nat) : Prop where
  rng : wr.ranges Tryd.prog 9 R0 mb r n Dc left cnt
  tidy : Tidy Dc
  has : ∀ k, Maps.has Dc (.string k) = (Fl F T now left k).isSome
  at_ : ∀ k b, Fl F T now left k = some b → ∀ z, Dc.atKey (.string k) z = .held (.pointer (some ⟨b, 0, none⟩))
  lf : ∀ k, left (.string k) = true → F k ≠ none
  ent : ∀ k b, Fl F T now left k = some b → EntAt S wr b (Tl T now left k)
  ext : ExtS S w wr
def SwRel (S : Nat → Prop) (w : World) (mb r n : Nat) (F : List UInt8 → Option Nat) (T : List UInt8 → Nat → Option NoteV) (now : Int) (wr : World) : Prop :=
  ∃ Dc left cnt, SwAt S w wr mb r n F T now Dc left cnt

theorem ranges_but {w w' : World} {mb r n b : Nat} {D : DataW Value} {left : Lit → Bool} {cnt : Nat} (h : w.ranges Tryd.prog 9 R0 mb r n D left cnt) (k : ExtBut b w w') (h1 : mb ≠ b) (h2 : r ≠ b) : w'.ranges Tryd.prog 9 R0 mb r n D left cnt := by
  have l1 := h.owns.lt
  have l2 := h.lt
  obtain ⟨es, clock, since, seen, c0, hb, Ft, hs, hD, hr, rest⟩ := h
  exact ⟨es, clock, since, seen, c0, (k.block mb l1 h1).trans hb, Ft, hs, hD, (k.block r l2 h2).trans hr, rest⟩

theorem invK : ∀ (key : Value) (kl : Lit), keyOf Tryd.prog 9 key = some kl → ∃ x : ByteArray, key = .string x := fun _ _ h => Maps.keyOf_string_inv Tryd.underlying9 h
theorem invV : ∀ (v : Value) (y : DataW Value × List MemPlace), R0 v = some y → ∃ c : Value, v = c := fun v _ _ => ⟨v, rfl⟩

theorem key_is {x : ByteArray} {kl : Lit} (h : keyOf Tryd.prog 9 (.string x) = some kl) : kl = .string x.data.toList := by
  obtain ⟨l, h1, h2, _⟩ := Maps.keyOf_str Tryd.underlying9 h
  have : x = ⟨l.toArray⟩ := by simpa [encStr] using h1
  subst this; simpa using h2

theorem butOf {b : Nat} {x y : World} (h : x.grownBy y (some b)) : ExtBut b x y := ⟨h.os, h.tape, h.output, h.size, fun k hk hn => h.block k hk (fun e => hn (by cases e; rfl))⟩

theorem left_ne {left : Lit → Bool} {x k : List UInt8} (h : k ≠ x) : (left (.string k) && !Lit.sameKey (.string k) (.string x)) = left (.string k) := by
  rw [Maps.sameKey_ne (a := .string k) (b := .string x) (by simpa using h)]; simp
theorem left_self {left : Lit → Bool} {x : List UInt8} (h : WideAt.IsKeyLit (.string x)) : (left (.string x) && !Lit.sameKey (.string x) (.string x)) = false := by
  rw [WideAt.sameKey_self h]; simp

/-- One name's round is over. -/
theorem sw_keep {S : Nat → Prop} {w w0 w2 : World} {mb r n : Nat} {F : List UInt8 → Option Nat} {T : List UInt8 → Nat → Option NoteV} {now : Int} {Dc : DataW Value} {left : Lit → Bool} {cnt cnt' : Nat} {x : List UInt8} {b : Nat}
    (H : SwAt S w w0 mb r n F T now Dc left cnt) (hk : WideAt.IsKeyLit (.string x)) (hF : F x = some b) (hlk : left (.string x) = true) (hN : noneB (sweptA (T x) now) = false)
    (hrg : w2.ranges Tryd.prog 9 R0 mb r n Dc (fun z => left z && !z.sameKey (.string x)) cnt') (hx : ExtS S w w2) (hent : EntAt S w2 b (sweptA (T x) now))
    (hoth : ∀ k b', k ≠ x → F k = some b' → ∀ A, EntAt S w0 b' A → EntAt S w2 b' A) (hsub : ∀ k b', Fl F T now left k = some b' → F k = some b') :
    SwAt S w w2 mb r n F T now Dc (fun z => left z && !z.sameKey (.string x)) cnt' := by
  have hFl : ∀ k, Fl F T now (fun z => left z && !z.sameKey (.string x)) k = Fl F T now left k := fun k => by
    by_cases e : k = x
    · subst e; unfold Fl; simp only [left_self hk, hlk, hN]; simp
    · unfold Fl; simp only [left_ne e]
  refine ⟨hrg, H.tidy, fun k => by rw [hFl]; exact H.has k, fun k b' hb => H.at_ k b' (by rw [← hFl]; exact hb), fun k hl => H.lf k (by simp at hl; exact hl.1), fun k b' hb => ?_, hx⟩
  rw [hFl] at hb
  by_cases e : k = x
  · subst e
    have := hsub _ _ hb
    rw [hF] at this; cases this
    unfold Tl; simp only [left_self hk]; simpa using hent
  · have := hoth k b' e (hsub _ _ hb) _ (H.ent k b' hb)
    unfold Tl at this ⊢; simp only [left_ne e]; exact this

theorem sw_drop {S : Nat → Prop} {w w0 w2 : World} {mb r n : Nat} {F : List UInt8 → Option Nat} {T : List UInt8 → Nat → Option NoteV} {now : Int} {Dc : DataW Value} {left : Lit → Bool} {cnt cnt' : Nat} {x : List UInt8} {b : Nat}
    (H : SwAt S w w0 mb r n F T now Dc left cnt) (hk : WideAt.IsKeyLit (.string x)) (hF : F x = some b) (hlk : left (.string x) = true) (hN : noneB (sweptA (T x) now) = true)
    (hrg : w2.ranges Tryd.prog 9 R0 mb r n (Dc.del (.string x)) (fun z => left z && !z.sameKey (.string x)) cnt') (hx : ExtS S w w2)
    (hoth : ∀ k b', k ≠ x → F k = some b' → ∀ A, EntAt S w0 b' A → EntAt S w2 b' A) (hsub : ∀ k b', Fl F T now left k = some b' → F k = some b') :
    SwAt S w w2 mb r n F T now (Dc.del (.string x)) (fun z => left z && !z.sameKey (.string x)) cnt' := by
  have hFl : ∀ k, k ≠ x → Fl F T now (fun z => left z && !z.sameKey (.string x)) k = Fl F T now left k := fun k e => by
    unfold Fl; simp only [left_ne e]
  have hFx : Fl F T now (fun z => left z && !z.sameKey (.string x)) x = none := by
    unfold Fl; simp only [left_self hk, hN]; simp
  refine ⟨hrg, H.tidy.del _, fun k => ?_, fun k b' hb z => ?_, fun k hl => H.lf k (by simp at hl; exact hl.1), fun k b' hb => ?_, hx⟩
  · by_cases e : k = x
    · subst e; rw [hFx, has_del_same]; rfl
    · rw [has_del_other (by simpa using e), hFl k e]; exact H.has k
  · have e : k ≠ x := fun e => by subst e; rw [hFx] at hb; cases hb
    rw [hFl k e] at hb
    rw [atKey_del_other (by simpa using e)]; exact H.at_ k b' hb z
  · have e : k ≠ x := fun e => by subst e; rw [hFx] at hb; cases hb
    rw [hFl k e] at hb
    have := hoth k b' e (hsub _ _ hb) _ (H.ent k b' hb)
    unfold Tl at this ⊢; simp only [left_ne e]; exact this

theorem Fl_sub {F : List UInt8 → Option Nat} {T : List UInt8 → Nat → Option NoteV} {now : Int} {left : Lit → Bool} (k : List UInt8) (b : Nat) (h : Fl F T now left k = some b) : F k = some b := by
  unfold Fl at h; split at h
  · exact h
  · split at h
    · cases h
    · exact h

set_option maxRecDepth 100000 in
set_option maxHeartbeats 4000000 in
theorem sweep_at {S : Nat → Prop} {tb mb n : Nat} {room : Int} {F : List UInt8 → Option Nat} {D : DataW Value} {T : List UInt8 → Nat → Option NoteV} (now : Int) (w : World) (h : TabAt S w tb mb n room F D T) :
    Calls Tryd.prog 21 #[.pointer (some ⟨tb, 0, none⟩), .int .i64 now] w fun e w' => e = .returned (.tuple #[]) ∧ ∃ Dc left, SwAt S w w' mb w.heap.size n F T now Dc left 0 ∧ ∀ kl, left kl = false := by
  have H := Lib.hid h
  have hmp := h.mp
  have hown := h.map.own
  have HOWN := Lib.hid hown
  clear h hown
  go_enter Tryd.func21, Tryd.ntmps21
  go_wp2_with (at_range; refine wpList_range_own _ rfl _ 59 rfl 9 63 keyed Tryd.underlying59 R0 mb n D rfl HOWN.out ?_; intro w1 hrg hg1 hsz1)
  go_frame
  have hx1 : Ext w w1 := ⟨hg1.os, hg1.tape, hg1.output, hg1.size, fun k hk => hg1.block k hk (by simp)⟩
  have hst : SwRel S w mb w.heap.size n F T now w1 := by
    refine ⟨D, Maps.has D, Maps.size D, hrg, H.out.map.tidy, fun k => ?_, fun k b hb z => ?_, fun k hk => ?_, fun k b hb => ?_, ExtS.of_ext hx1⟩
    · have := H.out.map.has k
      unfold Fl; rw [this]
      cases hF : F k <;> simp
    · have := H.out.map.has k
      unfold Fl at hb; rw [this] at hb
      cases hF : F k with
      | none => rw [hF] at hb; simp at hb
      | some b' => rw [hF] at hb; simp at hb; subst hb; exact H.out.map.at_ k b' hF z
    · rw [H.out.map.has k] at hk
      intro e; rw [e] at hk; cases hk
    · have := H.out.map.has k
      unfold Fl at hb; unfold Tl; rw [this] at hb ⊢
      cases hF : F k with
      | none => rw [hF] at hb; simp at hb
      | some b' =>
        rw [hF] at hb; simp at hb; subst hb
        simp only [Option.isSome_some, if_true]
        exact (H.out.ent k b' hF).ext hx1
  clear hrg
  go_loopw [4, 5, 6, 7, 13, 14, 15, 16, 17, 18, 19] (fun _ _ _ _ _ _ _ _ _ _ _ wr => SwRel S w mb w.heap.size n F T now wr) (fun _ _ _ _ _ _ _ _ _ _ _ wr => wr.rangeLeft mb w.heap.size)
  case atStart => exact hst
  case round =>
    obtain ⟨Dc, left, cnt, hs⟩ := hrel
    have HS := Lib.hid hs
    clear hs hst
    have tokn : True := trivial
    go_wp2_with (at_next; have _t := tokn; refine wpList_next_ranges _ rfl _ rfl 9 keyed R0 (fun s : ByteArray => Value.string s) (fun v : Value => v) invK invV mb w.heap.size n Dc left cnt rfl HS.out.rng ?done ?more)
    case done =>
      intro h0 hl
      have HL := Lib.hid hl
      clear hl
      go_wp2_with fail
      go_end0
      subst h0
      exact ⟨rfl, Dc, left, HS.out, HL.out⟩
    case more =>
      intro x c kl y ys w' cnt' hkey hlk hc hat hrg' hcnt hgr hsz hen
      obtain rfl := key_is hkey
      have hy : y = .held c := by have := Option.some.inj hc; exact (congrArg Prod.fst this).symm
      subst hy
      have hFk : ∃ b, F x.data.toList = some b := by
        cases hF : F x.data.toList with
        | none => exact absurd hF (HS.out.lf _ hlk)
        | some b => exact ⟨b, rfl⟩
      obtain ⟨b, hFb⟩ := hFk
      have hFl : Fl F T now left x.data.toList = some b := by unfold Fl; rw [if_pos hlk]; exact hFb
      have hcb : c = .pointer (some ⟨b, 0, none⟩) := by
        have h1 := HS.out.at_ _ b hFl (.held c)
        rw [hat] at h1
        exact DataW.held.inj h1
      subst hcb
      have hrn : ¬ S w.heap.size := fun e => by have := H.out.lt e; omega
      have hsb : S b := (H.out.own b).2 (Or.inr ⟨_, hFb⟩)
      have hblt := H.out.lt hsb
      have hbm : b ≠ mb := by
        intro e
        obtain ⟨Q, hq, _⟩ := H.out.ent _ b hFb
        obtain ⟨es, clock, hm, _⟩ := H.out.map.own
        rw [e, hm] at hq; cases hq
      have hit : ∃ m a s c, wr.heap[w.heap.size]? = some (.mapIter m a s c) := by
        obtain ⟨es, clock, since, seen, c0, _, _, _, _, hr, _⟩ := HS.out.rng
        exact ⟨_, _, _, _, hr⟩
      have hentb : EntAt S w' b (T x.data.toList) := by
        obtain ⟨m, a, s, c, hr⟩ := hit
        have h1 := HS.out.ent _ b hFl
        unfold Tl at h1; rw [if_pos hlk] at h1
        exact iter_ent hr hgr h1
      have hext' : ExtS S w w' := ⟨hgr.os.trans HS.out.ext.os, hgr.tape.trans HS.out.ext.tape, hgr.output.trans HS.out.ext.output, Nat.le_trans HS.out.ext.size hgr.size,
        fun k hk hn => (hgr.block k (Nat.lt_of_lt_of_le hk HS.out.ext.size) (fun e => by cases e; omega)).trans (HS.out.ext.block k hk hn)⟩
      have HEX := Lib.hid hext'
      clear hext'
      have HEN := Lib.hid hentb
      have HRG := Lib.hid hrg'
      have HAT := Lib.hid hat
      have HK := Lib.hid hkey
      clear hentb hrg' hat hkey hc hFl
      go_wp2_with fail
      obtain ⟨wo, rfl⟩ : ∃ wo : World, wo = w' := ⟨_, rfl⟩
      go_loopw [6, 7, 19] (fun _ _ iv wr => EntRel S wo b (T x.data.toList) now iv wr) (fun _ _ i _ => 16 - (intOf i).toNat)
      case atStart => exact ⟨0, rfl, by omega, HEN.out.congr (fun i _ => by simp), ExtBut.refl _ _⟩
      case round =>
        obtain ⟨i, rfl, hi, hent, hxb⟩ := hrel
        have HE := Lib.hid hent
        have HX := Lib.hid hxb
        clear hent hxb
        by_cases hlt : i < 16
        · obtain ⟨q, c1, f1, hn⟩ := HE.out.at i hlt
          rw [if_neg (Nat.lt_irrefl i)] at hn
          have i1 : (0 : Int) ≤ (i : Int) := by omega
          have i2 : (i : Int) < 16 := by omega
          cases q with
          | none =>
            cases hA : T x.data.toList i with
            | some a => rw [hA] at hn; exact absurd hn (by simp [NoteAt])
            | none =>
              have HA := Lib.hid hA
              simp only [ptrTo] at c1
              clear hA hn
              go_wp2_with fail
              go_quiet (fail)
              go_wp2_with fail
              go_roundw
              case rel =>
                unfold EntRel
                refine ⟨i + 1, by go_num, by omega, ?_, HX.out.trans (ExtBut.of_ext ((Ext.refl _).drewN _))⟩
                refine (HE.out.ext ((Ext.refl _).drewN _)).congr fun j hj => ?_
                by_cases e : j = i
                · subst e; simp [sweptA, HA.out]
                · by_cases e2 : j < i
                  · rw [if_pos (by omega), if_pos e2]
                  · rw [if_neg (by omega), if_neg e2]
              case measure => simp [intOf]; omega
          | some nb =>
            cases hA : T x.data.toList i with
            | none => rw [hA] at hn; exact absurd hn (by simp [NoteAt])
            | some a =>
              rw [hA] at hn
              simp only [NoteAt] at hn
              simp only [ptrTo] at c1
              have n4 := hn.2 4 _ rfl
              have HA := Lib.hid hA
              clear hA hn
              by_cases ht : a.til < now
              · go_wp2_with fail
                go_quiet (fail)
                go_wp2_with fail
                go_roundw
                case rel =>
                  unfold EntRel
                  refine ⟨i + 1, by go_num, by omega, ?_, (HX.out.trans (ExtBut.of_ext ((Ext.refl _).drewN _))).setCell _ _⟩
                  refine ((HE.out.ext ((Ext.refl _).drewN _)).strike hsb hlt).congr fun j hj => ?_
                  by_cases e : j = i
                  · subst e; simp [sweptA, HA.out, ht]
                  · rw [if_neg e]
                    by_cases e2 : j < i
                    · rw [if_pos (by omega), if_pos e2]
                    · rw [if_neg (by omega), if_neg e2]
                case measure => simp [intOf]; omega
              · go_wp2_with fail
                go_quiet (fail)
                go_wp2_with fail
                go_roundw
                case rel =>
                  unfold EntRel
                  refine ⟨i + 1, by go_num, by omega, ?_, HX.out.trans (ExtBut.of_ext ((Ext.refl _).drewN _))⟩
                  refine (HE.out.ext ((Ext.refl _).drewN _)).congr fun j hj => ?_
                  by_cases e : j = i
                  · subst e; simp [sweptA, HA.out, ht]
                  · by_cases e2 : j < i
                    · rw [if_pos (by omega), if_pos e2]
                    · rw [if_neg (by omega), if_neg e2]
                case measure => simp [intOf]; omega
        · obtain rfl : i = 16 := by omega
          have hent : EntAt S _ b (sweptA (T x.data.toList) now) := HE.out.congr (fun j hj => by simp [hj])
          obtain ⟨Q', hblk, hnt⟩ := hent
          have hnb := noneB_of hnt
          have hq : ∀ w : World, (Op.equalIn 10000 66 (.agg (ptrs Q')) (.agg #[.pointer none, .pointer none, .pointer none, .pointer none, .pointer none, .pointer none, .pointer none, .pointer none, .pointer none, .pointer none, .pointer none, .pointer none, .pointer none, .pointer none, .pointer none, .pointer none])).run Tryd.prog w = .ok (noneB (sweptA (T x.data.toList) now)) w := fun w => by
            rw [← hnb]; exact eql_entIn Q' 9998 w
          have HBLK := Lib.hid hblk
          have HNT := Lib.hid hnt
          clear hnt hnb hblk
          have hall := HEX.out.trans (ExtS.of_but HX.out (Or.inl hsb))
          have hmp2 := hall.cellAt H.out.tbS hmp
          have HALL := Lib.hid hall
          clear hall
          have hkN : ∀ kk : List UInt8, kk ≠ x.data.toList → Lit.sameKey (.string x.data.toList) (.string kk) = false := fun kk hk => by
            simp [Lit.sameKey]; exact fun e => hk e.symm
          cases hN : noneB (sweptA (T x.data.toList) now) with
          | false =>
            rw [hN] at hq
            have HN := Lib.hid hN
            clear hN
            go_wp2_with (refine wpList_load_row rfl 66 _ rfl b rfl _ (ptrs Q') (0,0) _ HBLK.out Tryd.underlying66 rfl (by kernel_rfl) ?_)
            go_roundw
            case rel =>
              exact ⟨Dc, _, _, sw_keep HS.out (keyed.key HK.out) hFb hlk HN.out (ranges_but HRG.out HX.out hbm.symm (by omega)) HALL.out ⟨Q', HBLK.out, HNT.out⟩
                (fun k b' hk hb A hA => (iter_ent hit.choose_spec.choose_spec.choose_spec.choose_spec hgr hA).but HX.out (fun e => hk (H.out.inj _ _ _ (e ▸ hb) hFb)) hsb) Fl_sub⟩
            case measure =>
              rw [(ranges_but HRG.out HX.out hbm.symm (by omega)).left_eq, HS.out.rng.left_eq]; omega
          | true =>
            rw [hN] at hq
            have HN := Lib.hid hN
            clear hN
            go_wp2_with (first | (refine wpList_load_row rfl 66 _ rfl b rfl _ (ptrs Q') (0,0) _ HBLK.out Tryd.underlying66 rfl (by kernel_rfl) ?_) | (at_delete; refine wpList_delete_ranges _ rfl _ _ 59 9 rfl 63 keyed Tryd.underlying59 R0 mb w.heap.size n _ _ _ rfl (ranges_but HRG.out HX.out hbm.symm (by omega)) _ _ rfl HK.out ?_; intro w2 cnt2 hrg2 hle hturn; go_frame))
            go_roundw
            case rel =>
              rw [Maps.strike_twice] at hrg2
              have hmS : S mb := (H.out.own mb).2 (Or.inl rfl)
              exact ⟨Dc.del _, _, _, sw_drop HS.out (keyed.key HK.out) hFb hlk HN.out hrg2 (HALL.out.trans (ExtS.of_grown hturn.grown (Or.inl hmS)))
                (fun k b' hk hb A hA => ((iter_ent hit.choose_spec.choose_spec.choose_spec.choose_spec hgr hA).but HX.out (fun e => hk (H.out.inj _ _ _ (e ▸ hb) hFb)) hsb).but (butOf hturn.grown) (fun e => by
                  subst e
                  obtain ⟨Q, hq, _⟩ := H.out.ent _ _ hb
                  obtain ⟨es, clock, hm, _⟩ := H.out.map.own
                  rw [hm] at hq; cases hq) hmS) Fl_sub⟩
            case measure =>
              rw [Maps.strike_twice] at hrg2
              rw [hrg2.left_eq, HS.out.rng.left_eq]; omega

end Go.Proofs.YtleogddijlabdaaDoor
