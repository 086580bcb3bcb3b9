/- The walk of the law of FindTheme, out of its callees' contracts. -/
import Derived.Test.YtgajkcooefifdaaPureC
import Derived.Test.YtgajkcooefifdaaMark
namespace Go.Proofs.Ytgajkcooefifdaa.PFnExactFindTheme
open Go.RowKit Go.Proofs.YtgajkcooefifdaaW.PrintWords Go.Proofs.YtgajkcooefifdaaW.PrintLast Go.Proofs.YtgajkcooefifdaaW.PrintMore
set_option linter.unusedVariables false
set_option linter.unusedSimpArgs false

theorem drawn_below {w w1 : World} (h : Drawn0 w w1) : Below w.heap.size w w1 := by
  obtain ⟨m, rfl⟩ := h
  exact pw_below_drewN (Below.refl _ _) m
theorem below_on {W w w1 : World} (h : Below W.heap.size W w) (k : Below w.heap.size w w1) : Below W.heap.size W w1 := h.trans (k.mono h.size)
/-- What a call made lies between the two worlds' ends. -/
theorem R_between {α : Type} {d : Kd α} {e : Nat} {W w w1 : World} {v : Value} {xs : List α} (hB : Below W.heap.size W w) (h : d.R e w1 w.heap.size (fun _ => True) v xs) : d.R e w1 W.heap.size (fun k => w.heap.size ≤ k ∧ k < w1.heap.size) v xs :=
  Kd.R_lower (Kd.R_mono (Kd.R_bound h) (fun k hk => ⟨hk.2.1, hk.2.2.1⟩)) hB.size
theorem S_between {α : Type} {d : Kd α} {e : Nat} {W w w1 : World} {v : Value} {xs : List α} (hB : Below W.heap.size W w) (h : Kd.S d e w1 w.heap.size (fun _ => True) v xs) : Kd.S d e w1 W.heap.size (fun k => w.heap.size ≤ k ∧ k < w1.heap.size) v xs :=
  Kd.S_lower (Kd.S_mono (Kd.S_bound h) (fun k hk => ⟨hk.2.1, hk.2.2.1⟩)) hB.size

theorem R_kept {α : Type} {d : Kd α} {e base : Nat} {w w1 : World} {v : Value} {xs : List α} {ok P : Nat → Prop} (h : d.R e w base ok v xs) (hk : Kept w w1 P) (hd : ∀ k, ok k → P k → False) : d.R e w1 base ok v xs := Kd.R_step h (fun k ho hlt => hk.2 k hlt (hd k ho))
theorem S_kept {α : Type} {d : Kd α} {e base : Nat} {w w1 : World} {v : Value} {xs : List α} {ok P : Nat → Prop} (h : Kd.S d e w base ok v xs) (hk : Kept w w1 P) (hd : ∀ k, ok k → P k → False) : Kd.S d e w1 base ok v xs := Kd.S_step h (fun k ho hlt => hk.2 k hlt (hd k ho))
/-- What the walk holds between the calls. -/
structure St (W w : World) (n5 n6 n7 : Nat) (v5 v6 v7 v8 : Value) (r : List (List Int)) (L T : List S62) : Prop where
  hb : Below W.heap.size W w
  s5 : Kd.S (Kd.slice 3 (Kd.int .i64)) 41 w W.heap.size (fun k => k < n5) v5 r
  r6 : Kd.R k62 62 w W.heap.size (fun k => n5 ≤ k ∧ k < n6) v6 L
  r7 : Kd.R k62 62 w W.heap.size (fun k => n6 ≤ k ∧ k < n7) v7 T
  s8 : Kd.S (Kd.slice 3 (Kd.int .i64)) 41 w W.heap.size (fun k => n7 ≤ k) v8 r
theorem St.step {W w w1 : World} {n5 n6 n7 : Nat} {v5 v6 v7 v8 : Value} {r : List (List Int)} {L T : List S62} (h : St W w n5 n6 n7 v5 v6 v7 v8 r L T) (k : Below w.heap.size w w1) : St W w1 n5 n6 n7 v5 v6 v7 v8 r L T :=
  ⟨below_on h.hb k, Kd.S_below h.s5 k, Kd.R_below h.r6 k, Kd.R_below h.r7 k, Kd.S_below h.s8 k⟩
theorem St.read6 {W w : World} {n5 n6 n7 n c : Nat} {A : Option Addr} {v5 v7 v8 : Value} {r : List (List Int)} {L T : List S62} (h : St W w n5 n6 n7 v5 (.slice A n c) v7 v8 r L T) : n ≤ c ∧ Kd.C k62 w A L.length L := (Kd.R_reads' h.r6).2
theorem St.read7 {W w : World} {n5 n6 n7 n c : Nat} {A : Option Addr} {v5 v6 v8 : Value} {r : List (List Int)} {L T : List S62} (h : St W w n5 n6 n7 v5 v6 (.slice A n c) v8 r L T) : n ≤ c ∧ Kd.C k62 w A T.length T := (Kd.R_reads' h.r7).2

set_option maxHeartbeats 8000000 in
set_option maxRecDepth 100000 in
theorem walk_main (k : Nat) (A0 : Option Addr) (c0 : Nat) (l0 : List S65) (A1 : Option Addr) (c1 : Nat) (l1 : List S65) (W : World) (hr0 : Kd.C k65 W A0 l0.length l0) (hc0 : l0.length ≤ c0) (hr1 : Kd.C k65 W A1 l1.length l1) (hc1 : l1.length ≤ c1)
   (s1 s2 : Int) (L T L' T' : List S62) (r g : List (List Int)) (b : Bool) (k0 k1 m : Int)
   (e1 : Aside0 (laws_szNoteS.f l0 1048576 = some s1)) (p1 : 0 ≤ s1) (e2 : Aside0 (laws_szNoteS.f l1 s1 = some s2)) (p2 : 0 ≤ s2)
   (e3 : Aside0 (laws_toNoteS.f k l0 = some L)) (e4 : Aside0 (laws_toNoteS.f k l1 = some T)) (e5 : Aside0 (spec_FindTheme.f k L T = some (r, b))) (e6 : Aside0 (impl_FindTheme.f k L T = some (r, b))) (e7 : Aside0 (laws_eqIntSS.f k r r = some true)) (e8 : Aside0 (laws_eqNoteS.f k L L = some true)) (e9 : Aside0 (laws_eqNoteS.f k T T = some true))
   (e10 : Aside0 (laws_markNoteS.f k L 1 = some (k0, L'))) (e11 : Aside0 (laws_markNoteS.f k T k0 = some (k1, T'))) (p3 : 0 ≤ k1) (e12 : Aside0 (laws_markIntSS.f k r 1 = some (m, g))) (e13 : Aside0 (laws_heldIntSS.f k g 1 = some m)) (p4 : 0 ≤ m) :
    Calls Try.prog 3 #[.slice A0 l0.length c0, .slice A1 l1.length c1] W fun e w' => e = .returned (.bool true) ∧ Below W.heap.size W w' := by
  have HR0 := Aside0.mk hr0
  have HR1 := Aside0.mk hr1
  have HC0 := Aside0.mk hc0
  have HC1 := Aside0.mk hc1
  clear hr0 hr1 hc0 hc1
  have H0 := Aside0.mk (Below.refl W.heap.size W)
  go_enter Try.func3, Try.ntmps3
  go_wp2_with fail
  refine (laws_szNoteS.calls A0 c0 l0 1048576 s1 _ HR0.out HC0.out e1.out).mono ?_
  rintro e w1 ⟨rfl, hd⟩
  have H1 := Aside0.mk (below_on H0.out (drawn_below hd)); clear hd
  go_wp2_with fail
  refine (laws_szNoteS.calls A1 c1 l1 s1 s2 _ (Kd.C_below HR1.out H1.out) HC1.out e2.out).mono ?_
  rintro e w2 ⟨rfl, hd⟩
  have H2 := Aside0.mk (below_on H1.out (drawn_below hd)); clear hd
  go_wp2_with fail
  refine (laws_toNoteS.calls k A0 c0 l0 L _ (Kd.C_below HR0.out H2.out) HC0.out e3.out).mono ?_
  rintro e w3 ⟨v3, rfl, hR, hb⟩
  obtain ⟨A3, c3, rfl, hl3, hC3⟩ := Kd.R_reads hR
  have H3 := Aside0.mk (below_on H2.out hb)
  have Q3 := Aside0.mk hC3
  have D3 := Aside0.mk hl3
  clear hR hb hl3 hC3
  go_wp2_with fail
  refine (laws_toNoteS.calls k A1 c1 l1 T _ (Kd.C_below HR1.out H3.out) HC1.out e4.out).mono ?_
  rintro e w4 ⟨v4, rfl, hR, hb⟩
  obtain ⟨A4, c4, rfl, hl4, hC4⟩ := Kd.R_reads hR
  have H4 := Aside0.mk (below_on H3.out hb)
  have Q4 := Aside0.mk hC4
  have D4 := Aside0.mk hl4
  have Q3' := Aside0.mk (Kd.C_below Q3.out hb)
  clear hR hb hl4 hC4 Q3
  go_wp2_with fail
  refine (spec_FindTheme.calls k A3 c3 L A4 c4 T r b _ Q3'.out D3.out Q4.out D4.out e5.out).mono ?_
  rintro e w5 ⟨v5, rfl, hS, hb⟩
  have S5 := Aside0.mk (S_between H4.out hS)
  have H5 := Aside0.mk (below_on H4.out hb)
  clear hS hb Q3' Q4
  go_wp2_with fail
  refine (laws_toNoteS.calls k A0 c0 l0 L _ (Kd.C_below HR0.out H5.out) HC0.out e3.out).mono ?_
  rintro e w6 ⟨v6, rfl, hR, hb⟩
  have R6 := Aside0.mk (R_between H5.out hR)
  have H6 := Aside0.mk (below_on H5.out hb)
  have S6 := Aside0.mk (Kd.S_below S5.out hb)
  have M6 : w5.heap.size ≤ w6.heap.size := hb.size
  clear hR hb S5
  go_wp2_with fail
  refine (laws_toNoteS.calls k A1 c1 l1 T _ (Kd.C_below HR1.out H6.out) HC1.out e4.out).mono ?_
  rintro e w7 ⟨v7, rfl, hR, hb⟩
  have R7 := Aside0.mk (R_between H6.out hR)
  have H7 := Aside0.mk (below_on H6.out hb)
  have S7 := Aside0.mk (Kd.S_below S6.out hb)
  have R6' := Aside0.mk (Kd.R_below R6.out hb)
  have M7 : w6.heap.size ≤ w7.heap.size := hb.size
  clear hR hb S6 R6
  obtain ⟨A6, c6, rfl, hl6, hC6⟩ := Kd.R_reads R6'.out
  obtain ⟨A7, c7, rfl, hl7, hC7⟩ := Kd.R_reads R7.out
  have Q6 := Aside0.mk hC6
  have D6 := Aside0.mk hl6
  have Q7 := Aside0.mk hC7
  have D7 := Aside0.mk hl7
  clear hC6 hl6 hC7 hl7
  go_wp2_with fail
  refine (impl_FindTheme.calls k A6 c6 L A7 c7 T r b _ Q6.out D6.out Q7.out D7.out e6.out).mono ?_
  rintro e w8 ⟨v8, rfl, hS, hb⟩
  obtain ⟨n5, hn5⟩ : ∃ n, n = w5.heap.size := ⟨_, rfl⟩
  obtain ⟨n6, hn6⟩ : ∃ n, n = w6.heap.size := ⟨_, rfl⟩
  obtain ⟨n7, hn7⟩ : ∃ n, n = w7.heap.size := ⟨_, rfl⟩
  have Z8 := Aside0.mk (St.mk (below_on H7.out hb) (Kd.S_mono (Kd.S_below S7.out hb) (fun k_ hk => by rw [hn5]; exact hk.2)) (Kd.R_mono (Kd.R_below R6'.out hb) (fun k_ hk => by rw [hn5, hn6]; exact hk)) (Kd.R_mono (Kd.R_below R7.out hb) (fun k_ hk => by rw [hn6, hn7]; exact hk)) (Kd.S_mono (S_between H7.out hS) (fun k_ hk => by rw [hn7]; exact hk.1)) : St W w8 n5 n6 n7 _ _ _ v8 r L T)
  clear hS hb S7 R6' R7 Q6 Q7 D6 D7 H3 H4 H5 H6 H7
  have M56 : n5 ≤ n6 := by rw [hn5, hn6]; exact M6
  have M67 : n6 ≤ n7 := by rw [hn6, hn7]; exact M7
  clear hn5 hn6 hn7 M6 M7
  obtain ⟨A5, c5, rfl, hl5, hC5⟩ := Kd.S_reads Z8.out.s5
  obtain ⟨A8, c8, rfl, hl8, hC8⟩ := Kd.S_reads Z8.out.s8
  have Q5 := Aside0.mk hC5
  have D5 := Aside0.mk hl5
  have Q8 := Aside0.mk hC8
  have D8 := Aside0.mk hl8
  clear hC5 hl5 hC8 hl8
  go_wp2_with fail
  refine (laws_eqIntSS.calls k A8 c8 r A5 c5 r true _ Q8.out D8.out Q5.out D5.out e7.out).mono ?_
  rintro e w9 ⟨rfl, hd⟩
  have Z9 := Aside0.mk (Z8.out.step (drawn_below hd))
  clear hd Z8 Q8 Q5
  go_wp2_with fail
  refine (laws_toNoteS.calls k A0 c0 l0 L _ (Kd.C_below HR0.out Z9.out.hb) HC0.out e3.out).mono ?_
  rintro e w10 ⟨v10, rfl, hR, hb⟩
  obtain ⟨A10, c10, rfl, hl, hC⟩ := Kd.R_reads hR
  have Q10 := Aside0.mk hC
  have D10 := Aside0.mk hl
  have Z10 := Aside0.mk (Z9.out.step hb)
  clear hR hb hl hC Z9
  go_wp2_with fail
  obtain ⟨hle6, hC6⟩ := Z10.out.read6
  refine (laws_eqNoteS.calls k A6 c6 L A10 c10 L true _ hC6 hle6 Q10.out D10.out e8.out).mono ?_
  clear hle6 hC6
  rintro e w11 ⟨rfl, hb⟩
  have Z11 := Aside0.mk (Z10.out.step hb)
  clear hb Z10 Q10 D10
  go_wp2_with fail
  refine (laws_toNoteS.calls k A1 c1 l1 T _ (Kd.C_below HR1.out Z11.out.hb) HC1.out e4.out).mono ?_
  rintro e w12 ⟨v12, rfl, hR, hb⟩
  obtain ⟨A12, c12, rfl, hl, hC⟩ := Kd.R_reads hR
  have Q12 := Aside0.mk hC
  have D12 := Aside0.mk hl
  have Z12 := Aside0.mk (Z11.out.step hb)
  clear hR hb hl hC Z11
  go_wp2_with fail
  obtain ⟨hle7, hC7⟩ := Z12.out.read7
  refine (laws_eqNoteS.calls k A7 c7 T A12 c12 T true _ hC7 hle7 Q12.out D12.out e9.out).mono ?_
  clear hle7 hC7
  rintro e w13 ⟨rfl, hb⟩
  have Z13 := Aside0.mk (Z12.out.step hb)
  clear hb Z12 Q12 D12
  go_wp2_with fail
  refine (laws_markNoteS.calls k _ _ L 1 k0 L' W _ Z13.out.hb Z13.out.r6 e10.out).mono ?_
  rintro e w14 ⟨rfl, _, hb, hk⟩
  have H14 := Aside0.mk hb
  have S14 := Aside0.mk (S_kept Z13.out.s5 hk (fun k_ (h1 : k_ < n5) (h2 : n5 ≤ k_ ∧ k_ < n6) => by omega))
  have R14 := Aside0.mk (R_kept Z13.out.r7 hk (fun k_ (h1 : n6 ≤ k_ ∧ k_ < n7) (h2 : n5 ≤ k_ ∧ k_ < n6) => by omega))
  have G14 := Aside0.mk (S_kept Z13.out.s8 hk (fun k_ (h1 : n7 ≤ k_) (h2 : n5 ≤ k_ ∧ k_ < n6) => by omega))
  clear hb hk Z13
  go_wp2_with fail
  refine (laws_markNoteS.calls k _ _ T k0 k1 T' W _ H14.out R14.out e11.out).mono ?_
  rintro e w15 ⟨rfl, _, hb, hk⟩
  have H15 := Aside0.mk hb
  have S15 := Aside0.mk (S_kept S14.out hk (fun k_ (h1 : k_ < n5) (h2 : n6 ≤ k_ ∧ k_ < n7) => by omega))
  have G15 := Aside0.mk (S_kept G14.out hk (fun k_ (h1 : n7 ≤ k_) (h2 : n6 ≤ k_ ∧ k_ < n7) => by omega))
  clear hb hk H14 S14 R14 G14
  have hkb : decide (k1 < 0) = false := decide_eq_false (by omega)
  go_wp2_with fail
  refine (laws_eqIntSS.calls k A8 c8 r A5 c5 r true _ (Kd.S_reads' G15.out).2.2 D8.out (Kd.S_reads' S15.out).2.2 D5.out e7.out).mono ?_
  rintro e w16 ⟨rfl, hd⟩
  have H16 := Aside0.mk (below_on H15.out (drawn_below hd))
  have S16 := Aside0.mk (Kd.S_below S15.out (drawn_below hd))
  have G16 := Aside0.mk (Kd.S_below G15.out (drawn_below hd))
  clear hd H15 S15 G15
  go_wp2_with fail
  refine (laws_markIntSS.calls k _ _ r 1 m g W _ H16.out G16.out e12.out).mono ?_
  rintro e w17 ⟨rfl, hg, hb, hk⟩
  have H17 := Aside0.mk hb
  have S17 := Aside0.mk (S_kept S16.out hk (fun k_ (h1 : k_ < n5) (h2 : n7 ≤ k_) => by omega))
  have hgl := Aside0.mk (((Kd.S_reads' hg).1).symm : g.length = r.length)
  have G17 := Aside0.mk (Kd.S_mono hg (fun k_ (h1 : n7 ≤ k_ ∨ w16.heap.size ≤ k_) => (trivial : (fun _ : Nat => True) k_)))
  have W17 := Aside0.mk (Nat.le_refl w17.heap.size)
  clear hg hb hk H16 S16 G16
  go_wp2_with fail
  have hc := laws_heldIntSS.calls k A8 c8 g 1 m w17 (by have h := (Kd.S_reads' G17.out).2.2; exact h) (by rw [hgl.out]; exact D8.out) e13.out
  rw [hgl.out] at hc
  refine hc.mono ?_
  clear hc
  rintro e w18 ⟨rfl, hd⟩
  have H18 := Aside0.mk (below_on H17.out (drawn_below hd))
  have S18 := Aside0.mk (Kd.S_below S17.out (drawn_below hd))
  have G18 := Aside0.mk (Kd.S_below G17.out (drawn_below hd))
  clear hd H17 S17 G17 W17
  have hm0 : decide (m < 0) = false := decide_eq_false (by omega)
  have hm1 : (m != m) = false := by simp
  go_wp2_with fail
  refine (laws_toNoteS.calls k A0 c0 l0 L _ (Kd.C_below HR0.out H18.out) HC0.out e3.out).mono ?_
  rintro e w19 ⟨v19, rfl, hR, hb⟩
  obtain ⟨A19, c19, rfl, hl, hC⟩ := Kd.R_reads hR
  have Q19 := Aside0.mk hC
  have D19 := Aside0.mk hl
  have H19 := Aside0.mk (below_on H18.out hb)
  have S19 := Aside0.mk (Kd.S_below S18.out hb)
  have G19 := Aside0.mk (Kd.S_below G18.out hb)
  clear hR hb hl hC H18 S18 G18
  go_wp2_with fail
  refine (laws_toNoteS.calls k A1 c1 l1 T _ (Kd.C_below HR1.out H19.out) HC1.out e4.out).mono ?_
  rintro e w20 ⟨v20, rfl, hR, hb⟩
  obtain ⟨A20, c20, rfl, hl, hC⟩ := Kd.R_reads hR
  have Q20 := Aside0.mk hC
  have D20 := Aside0.mk hl
  have Q19' := Aside0.mk (Kd.C_below Q19.out hb)
  have H20 := Aside0.mk (below_on H19.out hb)
  have S20 := Aside0.mk (Kd.S_below S19.out hb)
  have G20 := Aside0.mk (Kd.S_below G19.out hb)
  clear hR hb hl hC H19 S19 G19 Q19
  go_wp2_with fail
  refine (impl_FindTheme.calls k A19 c19 L A20 c20 T r b _ Q19'.out D19.out Q20.out D20.out e6.out).mono ?_
  rintro e w21 ⟨v21, rfl, hS, hb⟩
  obtain ⟨A21, c21, rfl, hl, hC⟩ := Kd.S_reads hS
  have Q21 := Aside0.mk hC
  have D21 := Aside0.mk hl
  have H21 := Aside0.mk (below_on H20.out hb)
  have S21 := Aside0.mk (Kd.S_below S20.out hb)
  have G21 := Aside0.mk (Kd.S_below G20.out hb)
  clear hS hb hl hC H20 S20 G20 Q19' Q20
  go_wp2_with fail
  refine (laws_eqIntSS.calls k A21 c21 r A5 c5 r true _ Q21.out D21.out (Kd.S_reads' S21.out).2.2 D5.out e7.out).mono ?_
  rintro e w22 ⟨rfl, hd⟩
  have H22 := Aside0.mk (below_on H21.out (drawn_below hd))
  have G22 := Aside0.mk (Kd.S_below G21.out (drawn_below hd))
  clear hd H21 S21 G21 Q21
  go_wp2_with fail
  have hc := laws_heldIntSS.calls k A8 c8 g 1 m w22 (by have h := (Kd.S_reads' G22.out).2.2; exact h) (by rw [hgl.out]; exact D8.out) e13.out
  rw [hgl.out] at hc
  refine hc.mono ?_
  clear hc
  rintro e w23 ⟨rfl, hd⟩
  have H23 := Aside0.mk (below_on H22.out (drawn_below hd))
  clear hd H22 G22
  go_wp2_with fail
  go_ret
  exact ⟨rfl, H23.out⟩
set_option maxHeartbeats 8000000 in
set_option maxRecDepth 100000 in
theorem walk_long0 (A0 : Option Addr) (c0 : Nat) (l0 : List S65) (A1 : Option Addr) (c1 : Nat) (l1 : List S65) (W : World) (hr0 : Kd.C k65 W A0 l0.length l0) (hc0 : l0.length ≤ c0) (s1 : Int)
   (e1 : Aside0 (laws_szNoteS.f l0 1048576 = some s1)) (p1 : s1 < 0) :
    Calls Try.prog 3 #[.slice A0 l0.length c0, .slice A1 l1.length c1] W fun e w' => e = .returned (.bool true) ∧ Below W.heap.size W w' := by
  have HR0 := Aside0.mk hr0
  have HC0 := Aside0.mk hc0
  clear hr0 hc0
  go_enter Try.func3, Try.ntmps3
  go_wp2_with fail
  refine (laws_szNoteS.calls A0 c0 l0 1048576 s1 _ HR0.out HC0.out e1.out).mono ?_
  rintro e w1 ⟨rfl, hd⟩
  have H1 := Aside0.mk (drawn_below hd); clear hd
  go_wp2_with fail
  go_ret
  exact ⟨rfl, H1.out⟩
set_option maxHeartbeats 8000000 in
set_option maxRecDepth 100000 in
theorem walk_long1 (A0 : Option Addr) (c0 : Nat) (l0 : List S65) (A1 : Option Addr) (c1 : Nat) (l1 : List S65) (W : World) (hr0 : Kd.C k65 W A0 l0.length l0) (hc0 : l0.length ≤ c0) (hr1 : Kd.C k65 W A1 l1.length l1) (hc1 : l1.length ≤ c1) (s1 s2 : Int)
   (e1 : Aside0 (laws_szNoteS.f l0 1048576 = some s1)) (p1 : 0 ≤ s1) (e2 : Aside0 (laws_szNoteS.f l1 s1 = some s2)) (p2 : s2 < 0) :
    Calls Try.prog 3 #[.slice A0 l0.length c0, .slice A1 l1.length c1] W fun e w' => e = .returned (.bool true) ∧ Below W.heap.size W w' := by
  have HR0 := Aside0.mk hr0
  have HR1 := Aside0.mk hr1
  have HC0 := Aside0.mk hc0
  have HC1 := Aside0.mk hc1
  clear hr0 hr1 hc0 hc1
  go_enter Try.func3, Try.ntmps3
  go_wp2_with fail
  refine (laws_szNoteS.calls A0 c0 l0 1048576 s1 _ HR0.out HC0.out e1.out).mono ?_
  rintro e w1 ⟨rfl, hd⟩
  have H1 := Aside0.mk (drawn_below hd); clear hd
  go_wp2_with fail
  refine (laws_szNoteS.calls A1 c1 l1 s1 s2 _ (Kd.C_below HR1.out H1.out) HC1.out e2.out).mono ?_
  rintro e w2 ⟨rfl, hd⟩
  have H2 := Aside0.mk (below_on H1.out (drawn_below hd)); clear hd
  go_wp2_with fail
  go_ret
  exact ⟨rfl, H2.out⟩
open Go.Proofs.Ytgajkcooefifdaa.PureA in
theorem walk (A0 : Option Addr) (c0 : Nat) (l0 : List S65) (A1 : Option Addr) (c1 : Nat) (l1 : List S65) (W : World) (hr0 : Kd.C k65 W A0 l0.length l0) (hc0 : l0.length ≤ c0) (hr1 : Kd.C k65 W A1 l1.length l1) (hc1 : l1.length ≤ c1) :
    Calls Try.prog 3 #[.slice A0 l0.length c0, .slice A1 l1.length c1] W fun e w' => e = .returned (.bool true) ∧ Below W.heap.size W w' := by
  have b0 : l0.length ≤ 9223372036854775807 := hr0.2.1
  have b1 : l1.length ≤ 9223372036854775807 := hr1.2.1
  by_cases h0 : l0.length ≤ 1048576
  · have e1 : laws_szNoteS.f l0 1048576 = some (1048576 - (l0.length : Int)) := by
      unfold laws_szNoteS.f
      rw [w64 (by omega) (by omega), if_neg (by omega)]
    by_cases h1 : l0.length + l1.length ≤ 1048576
    · have e2 : laws_szNoteS.f l1 (1048576 - (l0.length : Int)) = some (1048576 - (l0.length : Int) - (l1.length : Int)) := by
        unfold laws_szNoteS.f
        rw [w64 (by omega) (by omega), if_neg (by omega)]
      obtain ⟨k, L, T, L', T', r, g, b, k0, k1, m, g1, g2, g3, g4, g5, g6, g7, g8, g9, g10, g11, g12, g13⟩ := law_facts l0 l1 (by omega) (by omega)
      exact walk_main k A0 c0 l0 A1 c1 l1 W hr0 hc0 hr1 hc1 _ _ L T L' T' r g b k0 k1 m ⟨e1⟩ (by omega) ⟨e2⟩ (by omega) ⟨g1⟩ ⟨g2⟩ ⟨g3⟩ ⟨g4⟩ ⟨g5⟩ ⟨g6⟩ ⟨g7⟩ ⟨g8⟩ ⟨g9⟩ g10 ⟨g11⟩ ⟨g12⟩ g13
    · have e2 : laws_szNoteS.f l1 (1048576 - (l0.length : Int)) = some (-1) := by
        unfold laws_szNoteS.f
        rw [w64 (by omega) (by omega), if_pos (by omega)]
      exact walk_long1 A0 c0 l0 A1 c1 l1 W hr0 hc0 hr1 hc1 _ _ ⟨e1⟩ (by omega) ⟨e2⟩ (by omega)
  · have e1 : laws_szNoteS.f l0 1048576 = some (-1) := by
      unfold laws_szNoteS.f
      rw [w64 (by omega) (by omega), if_pos (by omega)]
    exact walk_long0 A0 c0 l0 A1 c1 l1 W hr0 hc0 _ ⟨e1⟩ (by omega)

end Go.Proofs.Ytgajkcooefifdaa.PFnExactFindTheme
