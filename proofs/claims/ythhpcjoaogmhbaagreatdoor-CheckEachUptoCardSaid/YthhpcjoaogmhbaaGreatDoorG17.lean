/- Joined by my own program, in build order: CheckR. -/
import Derived.Test.YthhpcjoaogmhbaaGreatDoorG16
set_option linter.unusedVariables false
set_option linter.unusedSimpArgs false
section
namespace Go.Proofs.YthhpcjoaogmhbaaGreatDoor
open Go.RowKit
theorem all_false {α : Type} {l : List α} {p : α → Bool} {k : Nat} {y : α} (h : l[k]? = some y) (hy : p y = false) : l.all p = false := by
 rw [Bool.eq_false_iff]; intro ha
 rw [List.all_eq_true] at ha
 have := ha y (List.mem_of_getElem? h)
 rw [hy] at this; cases this
set_option maxHeartbeats 8000000 in
theorem Dv (d : Nat) (w : World) (v : Value) (p : Program) (hp : iV d w (· < w.heap.size) v p) :
 Calls Tryz.prog 17 #[v] w fun e w' => e = .returned (.int .i64 (bH (bG p))) ∧ Below w.heap.size w w' := by
 obtain ⟨cv, mv, rfl, hC, hS⟩ := hp
 obtain ⟨ca, cn, ccap, rfl, hn, hcap, hmax, hel⟩ := hC
 obtain ⟨ma, mn, mcap, rfl⟩ := RSl.shape hS
 have H := Lib.hid hel
 have HN := Lib.hid hn
 have HS := Lib.hid hS
 unfold l8 at hmax
 clear hel hn hS
 go_enter Tryz.func17, Tryz.ntmps17
 go_wp2
 go_loopw [10] (fun v10 w' => ∃ j : Nat, j ≤ cn ∧ v10 = .int .i64 j ∧ Hid ((p.classes.take j).all dn = true) ∧ Hid (Below w.heap.size w w') ∧ w'.cell? ⟨w.heap.size, 1, none⟩ = some (.slice ma mn mcap)) (fun v10 _ => cn - (intOf v10).toNat)
 case atStart => exact ⟨0, by omega, rfl, rfl, by show Below w.heap.size w _; go_grown, by simp⟩
 case round =>
  obtain ⟨j, hj, rfl, HGJ, HB, k1⟩ := hrel
  by_cases hlt : j < cn
  ·obtain ⟨x, hx⟩ : ∃ x, p.classes[j]? = some x := ⟨_, List.getElem?_eq_getElem (by rw [HN.out]; exact hlt)⟩
   have HX := Lib.hid hx
   clear hx
   obtain ⟨b, off, cs, rfl, hbl, hc, fv, mv, rfl, wn, wu, hf, hm⟩ := H.out j _ HX.out
   have HF := Lib.hid hf
   obtain ⟨fa, fn, fcap, rfl⟩ := RSl.shape hf
   obtain ⟨a, n, cap, rfl, hn, hcap1, hmax1, hel⟩ := hm
   obtain ⟨c0, c1, c2, c3, -⟩ := aW (HB.out.block b hbl) hc
   have H2 := Lib.hid hel
   have HN2 := Lib.hid hn
   unfold l8 at hmax1
   clear hel hn hf hc
   obtain ⟨wo, rfl⟩ : ∃ wo : World, wo = wr := ⟨_, rfl⟩
   have HBA : Hid (∀ X, Below w.heap.size w (wo.alloc X)) := fun X => HB.out.alloc HB.out.size X
   go_wp2_with fail
   refine (dN _ wn _).mono ?_
   rintro e w' ⟨rfl, rfl⟩
   cases h1 : bK x.name with
   | false =>
     have HNO : Hid (bH (bG p) = 30) := by
      have hx : dn x = false := (by simp [dn, dY, h1])
      show bH (bG p) = 30
      unfold bG
      rw [all_false HX.out hx]; simp [bH]
     go_wp2
     go_ret
     refine ⟨by rw [HNO.out]; rfl, ?_⟩
     exact HBA.out _
   | true =>
     cases h2 : x.super.toList.isEmpty with
     | true =>
       have h2' : (!x.super.toList.isEmpty) = false := by rw [h2]; rfl
       go_wp2_with fail
       refine (lY _ _ x.fields (HF.out.mono (fun k hk => Nat.lt_of_lt_of_le hk (HBA.out _).size) (fun k hk => (HBA.out _).block k hk))).mono ?_
       rintro e w2 ⟨rfl, hb2⟩
       have HBI : Hid (Below w.heap.size w w2) := dF (HBA.out _) hb2
       have q3 : w2.cell? ⟨wo.heap.size, 3, none⟩ = some (.slice a n cap) := (hb2.cell (by simp)).trans (by simp)
       have q1 := next (o := 1) hb2 (next (by go_grown) k1)
       clear hb2
       cases h4 : x.fields.all fD with
       | false =>
         have HNO : Hid (bH (bG p) = 30) := by
          have hx : dn x = false := (by simp [dn, dY, h4])
          show bH (bG p) = 30
          unfold bG
          rw [all_false HX.out hx]; simp [bH]
         go_wp2
         go_ret
         refine ⟨by rw [HNO.out]; rfl, ?_⟩
         exact HBI.out
       | true =>
         have HCT : Hid (dY x = true) := by show dY x = true; simp [dY, *]
         go_wp2
         go_loopw [38] (fun v38 w' => ∃ k : Nat, k ≤ n ∧ v38 = .int .i64 k ∧ Hid ((x.methods.take k).all bL = true) ∧ Hid (Below w.heap.size w w') ∧ w'.cell? ⟨w.heap.size, 1, none⟩ = some (.slice ma mn mcap)) (fun v38 _ => n - (intOf v38).toNat)
         case atStart => exact ⟨0, by omega, rfl, rfl, HBI, q1⟩
         case round =>
          clear k1
          obtain ⟨k, hk, rfl, HGK, HBR, k1⟩ := hrel
          by_cases hlt2 : k < n
          ·obtain ⟨y, hy⟩ : ∃ y, x.methods[k]? = some y := ⟨_, List.getElem?_eq_getElem (by rw [HN2.out]; exact hlt2)⟩
           have HY := Lib.hid hy
           clear hy
           obtain ⟨b', off', cs', rfl, hbl', hc, pv, bv, rfl, wt, ws, hpv, hbv⟩ := H2.out k _ HY.out
           have HPV := Lib.hid hpv
           have HBV := Lib.hid hbv
           obtain ⟨pa, pn, pcap, rfl, hpn, hpc, hpm, -⟩ := hpv
           obtain ⟨ba, bn, bcap, rfl⟩ := RSl.shape hbv
           obtain ⟨e0, e1, e2, e3, -⟩ := aW (HBR.out.block b' hbl') hc
           have HPN := Lib.hid hpn
           unfold l8 at hpm
           have HBA : Hid (∀ X, Below w.heap.size w (wr.alloc X)) := fun X => HBR.out.alloc HBR.out.size X
           clear hbv hc hpn
           go_wp2_with fail
           refine (gP _ wt _).mono ?_
           rintro e w' ⟨rfl, rfl⟩
           cases h1 : fC y.type with
           | false =>
             have HBE : Hid (∀ X, Below w.heap.size w (wr.alloc X)) := HBA
             have HNO : Hid (bH (bG p) = 30) := by
              have hx : dn x = false := (by have hm : bL y = false := (by simp [bL, fD, h1]); unfold dn; rw [all_false HY.out hm]; simp)
              show bH (bG p) = 30
              unfold bG
              rw [all_false HX.out hx]; simp [bH]
             go_wp2
             go_ret
             refine ⟨by rw [HNO.out]; rfl, ?_⟩
             exact HBE.out _
           | true =>
             go_wp2_with fail
             refine (dN _ ws _).mono ?_
             rintro e w' ⟨rfl, rfl⟩
             cases h2 : bK y.name with
             | false =>
               have HBE : Hid (∀ X, Below w.heap.size w (wr.alloc X)) := HBA
               have HNO : Hid (bH (bG p) = 30) := by
                have hx : dn x = false := (by have hm : bL y = false := (by simp [bL, fD, h2]); unfold dn; rw [all_false HY.out hm]; simp)
                show bH (bG p) = 30
                unfold bG
                rw [all_false HX.out hx]; simp [bH]
               go_wp2
               go_ret
               refine ⟨by rw [HNO.out]; rfl, ?_⟩
               exact HBE.out _
             | true =>
               by_cases hp4 : pn ≤ 4
               ·have HP4 : Hid (decide (y.params.length ≤ 4) = true) := by show decide _ = true; rw [HPN.out]; simp [hp4]
                go_wp2_with fail
                refine (lY _ _ y.params (HPV.out.mono (fun k hk => Nat.lt_of_lt_of_le hk (HBA.out _).size) (fun k hk => (HBA.out _).block k hk))).mono ?_
                rintro e w2 ⟨rfl, hb2⟩
                have HBE : Hid (Below w.heap.size w w2) := dF (HBA.out _) hb2
                have q3 : w2.cell? ⟨wr.heap.size, 3, none⟩ = some (.slice ba bn bcap) := (hb2.cell (by simp)).trans (by simp)
                have s0 := next (o := 1) hb2 (next (by go_grown) k1)
                clear hb2 HBA
                cases h3 : y.params.all fD with
                | false =>
                  have HNO : Hid (bH (bG p) = 30) := by
                   have hx : dn x = false := (by have hm : bL y = false := (by simp [bL, h3]); unfold dn; rw [all_false HY.out hm]; simp)
                   show bH (bG p) = 30
                   unfold bG
                   rw [all_false HX.out hx]; simp [bH]
                  go_wp2
                  go_ret
                  refine ⟨by rw [HNO.out]; rfl, ?_⟩
                  exact HBE.out
                | true =>
                  go_wp2_with fail
                  refine (qb d w2 _ y.body (HBV.out.mono (fun k hk => Nat.lt_of_lt_of_le hk HBE.out.size) (fun k hk => HBE.out.block k hk))).mono ?_
                  rintro e w3 ⟨rfl, hb3⟩
                  have HBE1 := HBE
                  clear HBE
                  have HBE := jK hb3 HBE1
                  have s1 := next (o := 1) hb3 s0
                  clear hb3 q3 HBE1 s0
                  cases h4 : y.body.all bS with
                  | false =>
                    have HNO : Hid (bH (bG p) = 30) := by
                     have hx : dn x = false := (by have hm : bL y = false := (by simp [bL, h4]); unfold dn; rw [all_false HY.out hm]; simp)
                     show bH (bG p) = 30
                     unfold bG
                     rw [all_false HX.out hx]; simp [bH]
                    go_wp2
                    go_ret
                    refine ⟨by rw [HNO.out]; rfl, ?_⟩
                    exact HBE.out
                  | true =>
                    have HGN : Hid ((x.methods.take (k + 1)).all bL = true) := by
                     show (x.methods.take (k + 1)).all bL = true
                     rw [eD HY.out, HGK.out]
                     have h5 := HP4.out
                     unfold bL; rw [h5]; simp [fD, h1, h2, h3, h4]
                    go_wp2
                    refine ⟨?_, by simp [intOf]; omega⟩
                    first
                     | exact ⟨k + 1, by omega, by go_num, HGN, HBE, s1⟩
                     | ((repeat apply Exists.intro)
                        refine ⟨⟨k + 1, by omega, ?_, HGN, HBE, s1⟩, rfl⟩
                        go_num)
               ·have hgt : 4 < pn := by omega
                have HBE : Hid (∀ X, Below w.heap.size w (wr.alloc X)) := HBA
                have h5 : decide (y.params.length ≤ 4) = false := by rw [HPN.out]; simp; omega
                have hm0 : bL y = false := by unfold bL; rw [h5]; simp
                clear h5
                have HNO : Hid (bH (bG p) = 30) := by
                 have hx : dn x = false := (by unfold dn; rw [all_false HY.out hm0]; simp)
                 show bH (bG p) = 30
                 unfold bG
                 rw [all_false HX.out hx]; simp [bH]
                go_wp2
                go_ret
                refine ⟨by rw [HNO.out]; rfl, ?_⟩
                exact HBE.out _
          ·obtain rfl : k = n := by omega
           have et := List.take_of_length_le (l := x.methods) (i := k) (by rw [HN2.out]; exact Nat.le_refl _)
           have HGN : Hid ((p.classes.take (j + 1)).all dn = true) := by
            show (p.classes.take (j + 1)).all dn = true
            have h5 := HGK.out
            rw [et] at h5
            rw [eD HX.out, HGJ.out]
            simp only [dn, h5, HCT.out]; rfl
           clear et
           go_wp2
           refine ⟨?_, by simp [intOf]; omega⟩
           first
            | exact ⟨j + 1, by omega, by go_num, HGN, HBR, k1⟩
            | ((repeat apply Exists.intro)
               refine ⟨⟨j + 1, by omega, ?_, HGN, HBR, k1⟩, rfl⟩
               go_num)
     | false =>
       have h2' : (!x.super.toList.isEmpty) = true := by rw [h2]; rfl
       go_wp2_with fail
       refine (dN _ wu _).mono ?_
       rintro e w' ⟨rfl, rfl⟩
       cases h3 : bK x.super with
       | false =>
         have HNO : Hid (bH (bG p) = 30) := by
          have hx : dn x = false := (by simp only [dn, dY, h2, h3]; simp)
          show bH (bG p) = 30
          unfold bG
          rw [all_false HX.out hx]; simp [bH]
         go_wp2
         go_ret
         refine ⟨by rw [HNO.out]; rfl, ?_⟩
         exact HBA.out _
       | true =>
         go_wp2_with fail
         refine (lY _ _ x.fields (HF.out.mono (fun k hk => Nat.lt_of_lt_of_le hk (HBA.out _).size) (fun k hk => (HBA.out _).block k hk))).mono ?_
         rintro e w2 ⟨rfl, hb2⟩
         have HBI : Hid (Below w.heap.size w w2) := dF (HBA.out _) hb2
         have q3 : w2.cell? ⟨wo.heap.size, 3, none⟩ = some (.slice a n cap) := (hb2.cell (by simp)).trans (by simp)
         have q1 := next (o := 1) hb2 (next (by go_grown) k1)
         clear hb2
         cases h4 : x.fields.all fD with
         | false =>
           have HNO : Hid (bH (bG p) = 30) := by
            have hx : dn x = false := (by simp [dn, dY, h4])
            show bH (bG p) = 30
            unfold bG
            rw [all_false HX.out hx]; simp [bH]
           go_wp2
           go_ret
           refine ⟨by rw [HNO.out]; rfl, ?_⟩
           exact HBI.out
         | true =>
           have HCT : Hid (dY x = true) := by show dY x = true; simp [dY, *]
           go_wp2
           go_loopw [38] (fun v38 w' => ∃ k : Nat, k ≤ n ∧ v38 = .int .i64 k ∧ Hid ((x.methods.take k).all bL = true) ∧ Hid (Below w.heap.size w w') ∧ w'.cell? ⟨w.heap.size, 1, none⟩ = some (.slice ma mn mcap)) (fun v38 _ => n - (intOf v38).toNat)
           case atStart => exact ⟨0, by omega, rfl, rfl, HBI, q1⟩
           case round =>
            clear k1
            obtain ⟨k, hk, rfl, HGK, HBR, k1⟩ := hrel
            by_cases hlt2 : k < n
            ·obtain ⟨y, hy⟩ : ∃ y, x.methods[k]? = some y := ⟨_, List.getElem?_eq_getElem (by rw [HN2.out]; exact hlt2)⟩
             have HY := Lib.hid hy
             clear hy
             obtain ⟨b', off', cs', rfl, hbl', hc, pv, bv, rfl, wt, ws, hpv, hbv⟩ := H2.out k _ HY.out
             have HPV := Lib.hid hpv
             have HBV := Lib.hid hbv
             obtain ⟨pa, pn, pcap, rfl, hpn, hpc, hpm, -⟩ := hpv
             obtain ⟨ba, bn, bcap, rfl⟩ := RSl.shape hbv
             obtain ⟨e0, e1, e2, e3, -⟩ := aW (HBR.out.block b' hbl') hc
             have HPN := Lib.hid hpn
             unfold l8 at hpm
             have HBA : Hid (∀ X, Below w.heap.size w (wr.alloc X)) := fun X => HBR.out.alloc HBR.out.size X
             clear hbv hc hpn
             go_wp2_with fail
             refine (gP _ wt _).mono ?_
             rintro e w' ⟨rfl, rfl⟩
             cases h1 : fC y.type with
             | false =>
               have HBE : Hid (∀ X, Below w.heap.size w (wr.alloc X)) := HBA
               have HNO : Hid (bH (bG p) = 30) := by
                have hx : dn x = false := (by have hm : bL y = false := (by simp [bL, fD, h1]); unfold dn; rw [all_false HY.out hm]; simp)
                show bH (bG p) = 30
                unfold bG
                rw [all_false HX.out hx]; simp [bH]
               go_wp2
               go_ret
               refine ⟨by rw [HNO.out]; rfl, ?_⟩
               exact HBE.out _
             | true =>
               go_wp2_with fail
               refine (dN _ ws _).mono ?_
               rintro e w' ⟨rfl, rfl⟩
               cases h2 : bK y.name with
               | false =>
                 have HBE : Hid (∀ X, Below w.heap.size w (wr.alloc X)) := HBA
                 have HNO : Hid (bH (bG p) = 30) := by
                  have hx : dn x = false := (by have hm : bL y = false := (by simp [bL, fD, h2]); unfold dn; rw [all_false HY.out hm]; simp)
                  show bH (bG p) = 30
                  unfold bG
                  rw [all_false HX.out hx]; simp [bH]
                 go_wp2
                 go_ret
                 refine ⟨by rw [HNO.out]; rfl, ?_⟩
                 exact HBE.out _
               | true =>
                 by_cases hp4 : pn ≤ 4
                 ·have HP4 : Hid (decide (y.params.length ≤ 4) = true) := by show decide _ = true; rw [HPN.out]; simp [hp4]
                  go_wp2_with fail
                  refine (lY _ _ y.params (HPV.out.mono (fun k hk => Nat.lt_of_lt_of_le hk (HBA.out _).size) (fun k hk => (HBA.out _).block k hk))).mono ?_
                  rintro e w2 ⟨rfl, hb2⟩
                  have HBE : Hid (Below w.heap.size w w2) := dF (HBA.out _) hb2
                  have q3 : w2.cell? ⟨wr.heap.size, 3, none⟩ = some (.slice ba bn bcap) := (hb2.cell (by simp)).trans (by simp)
                  have s0 := next (o := 1) hb2 (next (by go_grown) k1)
                  clear hb2 HBA
                  cases h3 : y.params.all fD with
                  | false =>
                    have HNO : Hid (bH (bG p) = 30) := by
                     have hx : dn x = false := (by have hm : bL y = false := (by simp [bL, h3]); unfold dn; rw [all_false HY.out hm]; simp)
                     show bH (bG p) = 30
                     unfold bG
                     rw [all_false HX.out hx]; simp [bH]
                    go_wp2
                    go_ret
                    refine ⟨by rw [HNO.out]; rfl, ?_⟩
                    exact HBE.out
                  | true =>
                    go_wp2_with fail
                    refine (qb d w2 _ y.body (HBV.out.mono (fun k hk => Nat.lt_of_lt_of_le hk HBE.out.size) (fun k hk => HBE.out.block k hk))).mono ?_
                    rintro e w3 ⟨rfl, hb3⟩
                    have HBE1 := HBE
                    clear HBE
                    have HBE := jK hb3 HBE1
                    have s1 := next (o := 1) hb3 s0
                    clear hb3 q3 HBE1 s0
                    cases h4 : y.body.all bS with
                    | false =>
                      have HNO : Hid (bH (bG p) = 30) := by
                       have hx : dn x = false := (by have hm : bL y = false := (by simp [bL, h4]); unfold dn; rw [all_false HY.out hm]; simp)
                       show bH (bG p) = 30
                       unfold bG
                       rw [all_false HX.out hx]; simp [bH]
                      go_wp2
                      go_ret
                      refine ⟨by rw [HNO.out]; rfl, ?_⟩
                      exact HBE.out
                    | true =>
                      have HGN : Hid ((x.methods.take (k + 1)).all bL = true) := by
                       show (x.methods.take (k + 1)).all bL = true
                       rw [eD HY.out, HGK.out]
                       have h5 := HP4.out
                       unfold bL; rw [h5]; simp [fD, h1, h2, h3, h4]
                      go_wp2
                      refine ⟨?_, by simp [intOf]; omega⟩
                      first
                       | exact ⟨k + 1, by omega, by go_num, HGN, HBE, s1⟩
                       | ((repeat apply Exists.intro)
                          refine ⟨⟨k + 1, by omega, ?_, HGN, HBE, s1⟩, rfl⟩
                          go_num)
                 ·have hgt : 4 < pn := by omega
                  have HBE : Hid (∀ X, Below w.heap.size w (wr.alloc X)) := HBA
                  have h5 : decide (y.params.length ≤ 4) = false := by rw [HPN.out]; simp; omega
                  have hm0 : bL y = false := by unfold bL; rw [h5]; simp
                  clear h5
                  have HNO : Hid (bH (bG p) = 30) := by
                   have hx : dn x = false := (by unfold dn; rw [all_false HY.out hm0]; simp)
                   show bH (bG p) = 30
                   unfold bG
                   rw [all_false HX.out hx]; simp [bH]
                  go_wp2
                  go_ret
                  refine ⟨by rw [HNO.out]; rfl, ?_⟩
                  exact HBE.out _
            ·obtain rfl : k = n := by omega
             have et := List.take_of_length_le (l := x.methods) (i := k) (by rw [HN2.out]; exact Nat.le_refl _)
             have HGN : Hid ((p.classes.take (j + 1)).all dn = true) := by
              show (p.classes.take (j + 1)).all dn = true
              have h5 := HGK.out
              rw [et] at h5
              rw [eD HX.out, HGJ.out]
              simp only [dn, h5, HCT.out]; rfl
             clear et
             go_wp2
             refine ⟨?_, by simp [intOf]; omega⟩
             first
              | exact ⟨j + 1, by omega, by go_num, HGN, HBR, k1⟩
              | ((repeat apply Exists.intro)
                 refine ⟨⟨j + 1, by omega, ?_, HGN, HBR, k1⟩, rfl⟩
                 go_num)
  ·obtain rfl : j = cn := by omega
   have et := List.take_of_length_le (l := p.classes) (i := j) (by rw [HN.out]; exact Nat.le_refl _)
   have HE : Hid (bG p = p.main.all bS) := by
    have h5 := HGJ.out
    rw [et] at h5
    show bG p = _
    unfold bG; rw [h5]; simp
   clear et
   go_wp2_with fail
   refine (qb d _ _ p.main (HS.out.mono (fun k hk => Nat.lt_of_lt_of_le hk HB.out.size) (fun k hk => HB.out.block k hk))).mono ?_
   rintro e w2 ⟨rfl, hb2⟩
   have HB2 := jK hb2 HB
   clear hb2
   cases hq : p.main.all bS with
   | false =>
     go_wp2
     go_ret
     exact ⟨by rw [HE.out, hq]; rfl, HB2.out⟩
   | true =>
     go_wp2
     go_ret
     exact ⟨by rw [HE.out, hq]; rfl, HB2.out⟩
end Go.Proofs.YthhpcjoaogmhbaaGreatDoor
end
