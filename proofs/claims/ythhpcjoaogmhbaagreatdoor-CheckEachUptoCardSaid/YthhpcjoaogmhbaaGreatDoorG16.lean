/- Joined by my own program, in build order: Check. -/
import Derived.Test.YthhpcjoaogmhbaaGreatDoorG15
set_option linter.unusedVariables false
set_option linter.unusedSimpArgs false
section
namespace Go.Proofs.YthhpcjoaogmhbaaGreatDoor
open Go.RowKit
def bL (m : Method) : Bool := fD ⟨m.type, m.name⟩ && decide (m.params.length ≤ 4) && m.params.all fD && m.body.all bS
def dY (c : Class) : Bool := bK c.name && (c.super.toList.isEmpty || bK c.super) && c.fields.all fD
def dn (c : Class) : Bool := dY c && c.methods.all bL
def bG (p : Program) : Bool := p.main.all bS && p.classes.all dn
def bH (b : Bool) : Int := match b with | true => 0 | false => 30
theorem eD {α : Type} {l : List α} {p : α → Bool} {k : Nat} {y : α} (h : l[k]? = some y) : (l.take (k + 1)).all p = ((l.take k).all p && p y) := by
 rw [List.take_add_one, h, List.all_append]; simp
set_option maxHeartbeats 8000000 in
theorem JB (d : Nat) (w : World) (v : Value) (p : Program) (hM : jY w) (hp : iV d w (· < w.heap.size) v p) :
 Calls Tryz.prog 25 #[v] w fun e w' => e = .returned (.int .i64 (bH (bG p))) ∧ Below w.heap.size w w' := by
 obtain ⟨cv, mv, rfl, hC, hS⟩ := hp
 obtain ⟨ca, cn, ccap, rfl, hn, hcap, hmax, hel⟩ := hC
 obtain ⟨ma, mn, mcap, rfl⟩ := RSl.shape hS
 have H := Lib.hid hel
 have HN := Lib.hid hn
 have HS := Lib.hid hS
 have HM := Lib.hid hM
 unfold l8 at hmax
 clear hel hn hS hM
 go_enter Tryz.func25, Tryz.ntmps25
 go_wp2_with fail
 refine (CK d _ _ p.main (HM.out.keep (by go_grown)) (HS.out.mono (fun k hk => by simp; omega) (fun k hk => by rw [Below.heap_alloc _ _ _ hk]))).mono ?_
 rintro e w1 ⟨rfl, hb1⟩
 have HB1 : Hid (Below w.heap.size w w1) := dF (by go_grown) hb1
 have k0 : w1.cell? ⟨w.heap.size, 0, none⟩ = some (.slice ca cn ccap) := by rw [hb1.cell (by simp)]; simp
 clear hb1
 go_wp2
 go_loopw [3, 14] (fun v3 v14 w' => ∃ j : Nat, j ≤ cn ∧ v14 = .int .i64 j ∧ (∃ g : Bool, v3 = .bool g ∧ Hid (g = (p.main.all bS && (p.classes.take j).all dn))) ∧ Hid (Below w.heap.size w w')) (fun _ v14 _ => cn - (intOf v14).toNat)
 case atStart => exact ⟨0, by omega, rfl, ⟨_, rfl, by show _ = _; simp⟩, HB1⟩
 case round =>
  obtain ⟨j, hj, rfl, ⟨g, rfl, HGJ⟩, HB⟩ := hrel
  by_cases hlt : j < cn
  ·obtain ⟨x, hx⟩ : ∃ x, p.classes[j]? = some x := ⟨_, List.getElem?_eq_getElem (by rw [HN.out]; exact hlt)⟩
   have HX := Lib.hid hx
   clear hx
   obtain ⟨b, off, cs, rfl, hbl, hc, fv, mv, rfl, wn, wu, hf, hm⟩ := H.out j _ HX.out
   have HF := Lib.hid hf
   obtain ⟨fa, fn, fcap, rfl⟩ := RSl.shape hf
   obtain ⟨a, n, cap, rfl, hn, hcap1, hmax1, hel⟩ := hm
   obtain ⟨c0, c1, c2, c3, -⟩ := aW (HB.out.block b hbl) hc
   have H2 := Lib.hid hel
   have HN2 := Lib.hid hn
   unfold l8 at hmax1
   clear hel hn hf hc
   obtain ⟨wo, rfl⟩ : ∃ wo : World, wo = wr := ⟨_, rfl⟩
   obtain ⟨G, hGD⟩ : ∃ G, G = (p.main.all bS && (p.classes.take j).all dn && dY x) := ⟨_, rfl⟩
   have HGD := Lib.hid hGD
   clear hGD
   cases g
   focus
    have HG : Hid (G = false) := by show G = false; rw [HGD.out, ← HGJ.out]; rfl
    have HBX : Hid (∀ X, Hid (Below w.heap.size w (wo.alloc X))) := fun X => HB.out.alloc HB.out.size X
    have HBI := HBX.out
   rotate_left 1
   focus
    have HBA : Hid (∀ X, Below w.heap.size w (wo.alloc X)) := fun X => HB.out.alloc HB.out.size X
    go_wp2_with fail
    refine (uK (HM.out.keep (HBA.out _)) _ wn).mono ?_
    rintro e w' ⟨rfl, rfl⟩
    cases h1 : bK x.name
    focus
     have HG : Hid (G = false) := by show G = false; rw [HGD.out]; simp [dY, h1]
     have HBI := fun X => HBA.out X
    rotate_left 1
    focus
     cases h2 : x.super.toList.isEmpty
     focus
      have h2' : x.super.toList.isEmpty = false := h2
      go_wp2_with fail
      refine (uK (HM.out.keep (HBA.out _)) _ wu).mono ?_
      rintro e w' ⟨rfl, rfl⟩
      cases h3 : bK x.super
      focus
       have HG : Hid (G = false) := by show G = false; rw [HGD.out]; simp [dY, h1, h3, h2']
       have HBI := fun X => HBA.out X
      rotate_left 1
      focus
       go_wp2_with fail
       refine (xA _ (HM.out.keep (HBA.out _)) _ x.fields (HF.out.mono (fun k hk => Nat.lt_of_lt_of_le hk (HBA.out _).size) (fun k hk => (HBA.out _).block k hk))).mono ?_
       rintro e w2 ⟨rfl, hb2⟩
       have HBI : Hid (Below w.heap.size w w2) := dF (HBA.out _) hb2
       have q3 : w2.cell? ⟨wo.heap.size, 3, none⟩ = some (.slice a n cap) := (hb2.cell (by simp)).trans (by simp)
       clear hb2
       cases h4 : x.fields.all fD
       focus
        have HG : Hid (G = false) := by show G = false; rw [HGD.out]; simp [dY, h4]
       rotate_left 1
       focus
        have HG : Hid (G = true) := by show G = true; rw [HGD.out, ← HGJ.out]; simp [dY, *]
     rotate_left 3
     focus
      have h2' : (x.super.toList.isEmpty) = true := h2
      go_wp2_with fail
      refine (xA _ (HM.out.keep (HBA.out _)) _ x.fields (HF.out.mono (fun k hk => Nat.lt_of_lt_of_le hk (HBA.out _).size) (fun k hk => (HBA.out _).block k hk))).mono ?_
      rintro e w2 ⟨rfl, hb2⟩
      have HBI : Hid (Below w.heap.size w w2) := dF (HBA.out _) hb2
      have q3 : w2.cell? ⟨wo.heap.size, 3, none⟩ = some (.slice a n cap) := (hb2.cell (by simp)).trans (by simp)
      clear hb2
      cases h4 : x.fields.all fD
      focus
       have HG : Hid (G = false) := by show G = false; rw [HGD.out]; simp [dY, h4]
      rotate_left 1
      focus
       have HG : Hid (G = true) := by show G = true; rw [HGD.out, ← HGJ.out]; simp [dY, *]
   all_goals
    go_wp2
    go_loopw [3, 42] (fun v3 v42 w' => ∃ k : Nat, k ≤ n ∧ v42 = .int .i64 k ∧ (∃ gk : Bool, v3 = .bool gk ∧ Hid (gk = (G && (x.methods.take k).all bL))) ∧ Hid (Below w.heap.size w w')) (fun _ v42 _ => n - (intOf v42).toNat)
    case atStart => exact ⟨0, by omega, rfl, ⟨_, rfl, by show _ = _; rw [HG.out]; simp⟩, by first | exact HBI | exact HBI _⟩
    case round =>
     obtain ⟨k, hk, rfl, ⟨gk, rfl, HGK⟩, HBR⟩ := hrel
     by_cases hlt2 : k < n
     ·obtain ⟨y, hy⟩ : ∃ y, x.methods[k]? = some y := ⟨_, List.getElem?_eq_getElem (by rw [HN2.out]; exact hlt2)⟩
      have HY := Lib.hid hy
      clear hy
      obtain ⟨b', off', cs', rfl, hbl', hc, pv, bv, rfl, wt, ws, hpv, hbv⟩ := H2.out k _ HY.out
      have HPV := Lib.hid hpv
      have HBV := Lib.hid hbv
      obtain ⟨pa, pn, pcap, rfl, hpn, hpc, hpm, -⟩ := hpv
      obtain ⟨ba, bn, bcap, rfl⟩ := RSl.shape hbv
      obtain ⟨e0, e1, e2, e3, -⟩ := aW (HBR.out.block b' hbl') hc
      have HPN := Lib.hid hpn
      unfold l8 at hpm
      clear hbv hc hpn
      cases gk with
      | false =>
        have HBE : Hid (∀ X, Below w.heap.size w (wr.alloc X)) := fun X => HBR.out.alloc HBR.out.size X
        have HGN : Hid (false = (G && (x.methods.take (k + 1)).all bL)) := by
         show false = _
         rw [eD HY.out, ← Bool.and_assoc, ← HGK.out]; rfl
        go_wp2
        refine ⟨?_, by simp [intOf]; omega⟩
        first
         | exact ⟨k + 1, by omega, by go_num, ⟨false, rfl, HGN⟩, HBE.out _⟩
         | ((repeat apply Exists.intro)
            refine ⟨⟨k + 1, by omega, ?_, ⟨false, rfl, HGN⟩, HBE.out _⟩, rfl⟩
            go_num)
      | true =>
        have HBA : Hid (∀ X, Below w.heap.size w (wr.alloc X)) := fun X => HBR.out.alloc HBR.out.size X
        go_wp2_with fail
        refine (Au _ _ wt ws _ (HM.out.keep (HBA.out _))).mono ?_
        rintro e w1 ⟨rfl, hb1⟩
        have HBE : Hid (Below w.heap.size w w1) := dF (HBA.out _) hb1
        have q2 : w1.cell? ⟨wr.heap.size, 2, none⟩ = some (.slice pa pn pcap) := (hb1.cell (by simp)).trans (by simp)
        have q3 : w1.cell? ⟨wr.heap.size, 3, none⟩ = some (.slice ba bn bcap) := (hb1.cell (by simp)).trans (by simp)
        clear hb1 e0 e1 e2 e3 HBA
        cases h1 : fD ⟨y.type, y.name⟩ with
        | false =>
          have HGN : Hid (false = (G && (x.methods.take (k + 1)).all bL)) := by
           show false = _
           rw [eD HY.out, ← Bool.and_assoc, ← HGK.out]
           simp [bL, *]
          go_wp2
          refine ⟨?_, by simp [intOf]; omega⟩
          first
           | exact ⟨k + 1, by omega, by go_num, ⟨false, rfl, HGN⟩, HBE⟩
           | ((repeat apply Exists.intro)
              refine ⟨⟨k + 1, by omega, ?_, ⟨false, rfl, HGN⟩, HBE⟩, rfl⟩
              go_num)
        | true =>
          by_cases hp4 : pn ≤ 4
          ·have h2 : decide (y.params.length ≤ 4) = true := by rw [HPN.out]; simp [hp4]
           have H2' := Lib.hid h2
           clear h2
           go_wp2_with fail
           refine (xA w1 (HM.out.keep HBE.out) _ y.params (HPV.out.mono (fun k hk => Nat.lt_of_lt_of_le hk HBE.out.size) (fun k hk => HBE.out.block k hk))).mono ?_
           rintro e w2 ⟨rfl, hb2⟩
           have HBE1 := HBE
           clear HBE
           have HBE := jK hb2 HBE1
           have r3 := next (o := 3) hb2 q3
           clear hb2 q2 q3 HBE1
           cases h3 : y.params.all fD with
           | false =>
             have h2 := H2'.out
             have HGN : Hid (false = (G && (x.methods.take (k + 1)).all bL)) := by
              show false = _
              rw [eD HY.out, ← Bool.and_assoc, ← HGK.out]
              simp [bL, *]
             go_wp2
             refine ⟨?_, by simp [intOf]; omega⟩
             first
              | exact ⟨k + 1, by omega, by go_num, ⟨false, rfl, HGN⟩, HBE⟩
              | ((repeat apply Exists.intro)
                 refine ⟨⟨k + 1, by omega, ?_, ⟨false, rfl, HGN⟩, HBE⟩, rfl⟩
                 go_num)
           | true =>
             go_wp2_with fail
             refine (CK d w2 _ y.body (HM.out.keep HBE.out) (HBV.out.mono (fun k hk => Nat.lt_of_lt_of_le hk HBE.out.size) (fun k hk => HBE.out.block k hk))).mono ?_
             rintro e w3 ⟨rfl, hb3⟩
             have HBE1 := HBE
             clear HBE
             have HBE := jK hb3 HBE1
             clear hb3 r3 HBE1
             cases h4 : y.body.all bS with
             | false =>
               have h2 := H2'.out
               have HGN : Hid (false = (G && (x.methods.take (k + 1)).all bL)) := by
                show false = _
                rw [eD HY.out, ← Bool.and_assoc, ← HGK.out]
                simp [bL, *]
               go_wp2
               refine ⟨?_, by simp [intOf]; omega⟩
               first
                | exact ⟨k + 1, by omega, by go_num, ⟨false, rfl, HGN⟩, HBE⟩
                | ((repeat apply Exists.intro)
                   refine ⟨⟨k + 1, by omega, ?_, ⟨false, rfl, HGN⟩, HBE⟩, rfl⟩
                   go_num)
             | true =>
               have h2 := H2'.out
               have HGN : Hid (true = (G && (x.methods.take (k + 1)).all bL)) := by
                show true = _
                rw [eD HY.out, ← Bool.and_assoc, ← HGK.out]
                simp [bL, *]
               go_wp2
               refine ⟨?_, by simp [intOf]; omega⟩
               first
                | exact ⟨k + 1, by omega, by go_num, ⟨true, rfl, HGN⟩, HBE⟩
                | ((repeat apply Exists.intro)
                   refine ⟨⟨k + 1, by omega, ?_, ⟨true, rfl, HGN⟩, HBE⟩, rfl⟩
                   go_num)
          ·have h2 : decide (y.params.length ≤ 4) = false := by rw [HPN.out]; simp; omega
           have hgt : ¬ pn ≤ 4 := hp4
           have HGN : Hid (false = (G && (x.methods.take (k + 1)).all bL)) := by
            show false = _
            rw [eD HY.out, ← Bool.and_assoc, ← HGK.out]
            simp [bL, *]
           go_wp2
           refine ⟨?_, by simp [intOf]; omega⟩
           first
            | exact ⟨k + 1, by omega, by go_num, ⟨false, rfl, HGN⟩, HBE⟩
            | ((repeat apply Exists.intro)
               refine ⟨⟨k + 1, by omega, ?_, ⟨false, rfl, HGN⟩, HBE⟩, rfl⟩
               go_num)
     ·obtain rfl : k = n := by omega
      go_wp2
      have et := List.take_of_length_le (l := x.methods) (i := k) (by rw [HN2.out]; exact Nat.le_refl _)
      have HGN : Hid (gk = (p.main.all bS && (p.classes.take (j + 1)).all dn)) := by
       show gk = _
       rw [eD HX.out, HGK.out, et, HGD.out]
       simp [dn, Bool.and_assoc]
      refine ⟨?_, by simp [intOf]; omega⟩
      first
       | exact ⟨j + 1, by omega, by go_num, ⟨gk, rfl, HGN⟩, HBR⟩
       | ((repeat apply Exists.intro)
          refine ⟨⟨j + 1, by omega, ?_, ⟨gk, rfl, HGN⟩, HBR⟩, rfl⟩
          go_num)
  ·obtain rfl : j = cn := by omega
   have et := List.take_of_length_le (l := p.classes) (i := j) (by rw [HN.out]; exact Nat.le_refl _)
   have HE : Hid (g = bG p) := by have := HGJ.out; rw [et] at this; exact this
   clear et
   cases g with
   | false =>
     go_wp2
     go_ret
     exact ⟨by rw [← HE.out]; rfl, HB.out⟩
   | true =>
     go_wp2
     go_ret
     exact ⟨by rw [← HE.out]; rfl, HB.out⟩
end Go.Proofs.YthhpcjoaogmhbaaGreatDoor
end
