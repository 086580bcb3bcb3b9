/- The walk of the law of FindRhythm, out of its callees' contracts. -/
import Derived.Test.YthhlmjcfhfkmdaaRhyI
namespace Go.Proofs.Ythhlmjcfhfkmdaa.Rhy
open Go.RowKit Go.Proofs.Ythhlmjcfhfkmdaa.PFnExactFindRhythm Go.Proofs.YthhlmjcfhfkmdaaW.PrintWords Go.Proofs.YthhlmjcfhfkmdaaW.PrintLast Go.Proofs.YthhlmjcfhfkmdaaW.PrintMore
set_option linter.unusedVariables false
set_option linter.unusedSimpArgs false

theorem below_w {W w w1 : World} (h : Below W.heap.size W w) (k : Below w.heap.size w w1) : Below W.heap.size W w1 := h.trans (k.mono h.size)
/-- What a call made lies between the two worlds' ends. -/
theorem R_between {α : Type} {d : Kd α} {e : Nat} {W w w1 : World} {v : Value} {xs : List α} (hB : Below W.heap.size W w) (h : d.R e w1 w.heap.size (fun _ => True) v xs) : d.R e w1 W.heap.size (fun k => w.heap.size ≤ k ∧ k < w1.heap.size) v xs :=
  Kd.R_lower (Kd.R_mono (Kd.R_bound h) (fun k hk => ⟨hk.2.1, hk.2.2.1⟩)) hB.size
theorem R_kept {α : Type} {d : Kd α} {e base : Nat} {w w1 : World} {v : Value} {xs : List α} {ok P : Nat → Prop} (h : d.R e w base ok v xs) (hk : Kept w w1 P) (hd : ∀ k, ok k → P k → False) : d.R e w1 base ok v xs := Kd.R_step h (fun k ho hlt => hk.2 k hlt (hd k ho))
/-- What both answer. -/
structure Ans (L T : List S58) (r : List Int) (b : Bool) : Prop where
  hl : L.length ≤ 1048576
  ht : T.length ≤ 1048576
  hr : r = (rhythmRes L T).1
  hb : b = asked L T
theorem srhythm_c (k : Nat) (A0 : Option Addr) (c0 : Nat) (l : List S58) (A1 : Option Addr) (c1 : Nat) (t : List S58) (r : List Int) (b : Bool) (w : World) (hr0 : Kd.C k58 w A0 l.length l) (hc0 : l.length ≤ c0) (hr1 : Kd.C k58 w A1 t.length t) (hc1 : t.length ≤ c1) (h : Ans l t r b) :
    Calls Try.prog 7 #[.slice A0 l.length c0, .slice A1 t.length c1] w fun e w' => ∃ v, e = .returned (.tuple #[v, .bool b]) ∧ Kd.R (Kd.int .i64) 3 w' w.heap.size (fun _ => True) v r ∧ Below w.heap.size w w' := by
  obtain ⟨k, hk⟩ := (spec_rhythm l t h.hl h.ht).rounds
  have e : rhythmRes l t = (r, b) := by
    rw [h.hr, h.hb]
    unfold rhythmRes
    cases asked l t <;> simp
  rw [e] at hk
  exact spec_FindRhythm.calls k A0 c0 l A1 c1 t r b w hr0 hc0 hr1 hc1 hk
theorem irhythm_k (k : Nat) (A0 : Option Addr) (c0 : Nat) (l : List S58) (A1 : Option Addr) (c1 : Nat) (t : List S58) (r : List Int) (b : Bool) (w : World) (hr0 : Kd.C k58 w A0 l.length l) (hc0 : l.length ≤ c0) (hr1 : Kd.C k58 w A1 t.length t) (hc1 : t.length ≤ c1) (h : Ans l t r b) :
    Calls Try.prog 9 #[.slice A0 l.length c0, .slice A1 t.length c1] w fun e w' => ∃ v, e = .returned (.tuple #[v, .bool b]) ∧ Kd.R (Kd.int .i64) 3 w' w.heap.size (fun _ => True) v r ∧ Below w.heap.size w w' := by
  rw [h.hr, h.hb]
  exact irhythm_c A0 c0 l A1 c1 t w hr0 hc0 hr1 hc1 h.hl h.ht
theorem both {p q : Nat → Prop} (h : ∃ K, ∀ k, K ≤ k → p k) (h' : ∃ K, ∀ k, K ≤ k → q k) : ∃ K, ∀ k, K ≤ k → p k ∧ q k := by
  obtain ⟨a, h⟩ := h
  obtain ⟨b, h'⟩ := h'
  exact ⟨max a b, fun k hk => ⟨h k (by omega), h' k (by omega)⟩⟩
theorem res_len (l t : List S58) : (rhythmRes l t).1.length ≤ l.length := by
  unfold rhythmRes
  split
  · have h1 := Lib.compact_length_le ((gets l t l).mergeSort fun x y => decide (x ≤ y))
    have h2 := gets_len l t l
    rw [List.length_mergeSort] at h1
    show (Lib.compact _).length ≤ _
    omega
  · simp
/-- All that the law's walk wants to know. -/
theorem law_facts (l t : List S61) (hl : l.length ≤ 1048576) (ht : t.length ≤ 1048576) : ∃ (k : Nat) (L T L' T' : List S58) (r g : List Int) (b : Bool) (k0 k1 m : Int),
    laws_toNoteS.f k l = some L ∧ laws_toNoteS.f k t = some T ∧ Ans L T r b ∧ Ans L T r b ∧ laws_eqIntS.f k r r = some true ∧ laws_eqNoteS.f k L L = some true ∧ laws_eqNoteS.f k T T = some true ∧
    laws_markNoteS.f k L 1 = some (k0, L') ∧ laws_markNoteS.f k T k0 = some (k1, T') ∧ 0 ≤ k1 ∧ laws_markIntS.f k r 1 = some (m, g) ∧ laws_heldIntS.f k g 1 = some m ∧ 0 ≤ m := by
  have hL : (l.map conv).length ≤ 1048576 := by simpa using hl
  have hT : (t.map conv).length ≤ 1048576 := by simpa using ht
  have f1 := to_notes l hl
  have f2 := to_notes t ht
  obtain ⟨L', f5⟩ := mark_notes (l.map conv) hL 1 (by omega) (by omega)
  obtain ⟨T', f6⟩ := mark_notes (t.map conv) hT (1 + 3 * ((l.map conv).length : Int)) (by omega) (by omega)
  have f7 := eq_notes _ hL
  have f8 := eq_notes _ hT
  have hrl := res_len (l.map conv) (t.map conv)
  have f9 := eq_ints (rhythmRes (l.map conv) (t.map conv)).1 (by omega)
  have f10 := mark_ints (rhythmRes (l.map conv) (t.map conv)).1 (by omega) 1 (by omega) (by omega)
  have f11 := held_ints (rhythmRes (l.map conv) (t.map conv)).1 (by omega) 1 (by omega) (by omega)
  obtain ⟨K, h⟩ := both f1 (both f2 (both f9 (both f7 (both f8 (both f5 (both f6 (both f10 f11)))))))
  obtain ⟨g1, g2, g5, g6, g7, g8, g9, g10, g11⟩ := h K (Nat.le_refl _)
  exact ⟨K, _, _, _, _, _, _, _, _, _, _, g1, g2, ⟨hL, hT, rfl, rfl⟩, ⟨hL, hT, rfl, rfl⟩, g5, g6, g7, g8, g9, by omega, g10, g11, by omega⟩
/-- What the walk holds between the calls. -/
structure St (W w : World) (n5 n6 n7 : Nat) (v5 v6 v7 v8 : Value) (r : List Int) (L T : List S58) : Prop where
  hb : Below W.heap.size W w
  s5 : Kd.R (Kd.int .i64) 3 w W.heap.size (fun k => k < n5) v5 r
  r6 : Kd.R k58 58 w W.heap.size (fun k => n5 ≤ k ∧ k < n6) v6 L
  r7 : Kd.R k58 58 w W.heap.size (fun k => n6 ≤ k ∧ k < n7) v7 T
  s8 : Kd.R (Kd.int .i64) 3 w W.heap.size (fun k => n7 ≤ k) v8 r
theorem St.step {W w w1 : World} {n5 n6 n7 : Nat} {v5 v6 v7 v8 : Value} {r : List Int} {L T : List S58} (h : St W w n5 n6 n7 v5 v6 v7 v8 r L T) (k : Below w.heap.size w w1) : St W w1 n5 n6 n7 v5 v6 v7 v8 r L T :=
  ⟨below_w h.hb k, Kd.R_below h.s5 k, Kd.R_below h.r6 k, Kd.R_below h.r7 k, Kd.R_below h.s8 k⟩
theorem St.read6 {W w : World} {n5 n6 n7 n c : Nat} {A : Option Addr} {v5 v7 v8 : Value} {r : List Int} {L T : List S58} (h : St W w n5 n6 n7 v5 (.slice A n c) v7 v8 r L T) : n ≤ c ∧ Kd.C k58 w A L.length L := (Kd.R_reads' h.r6).2
theorem St.read7 {W w : World} {n5 n6 n7 n c : Nat} {A : Option Addr} {v5 v6 v8 : Value} {r : List Int} {L T : List S58} (h : St W w n5 n6 n7 v5 v6 (.slice A n c) v8 r L T) : n ≤ c ∧ Kd.C k58 w A T.length T := (Kd.R_reads' h.r7).2

set_option maxHeartbeats 8000000 in
set_option maxRecDepth 100000 in
theorem walk_main (k : Nat) (A0 : Option Addr) (c0 : Nat) (l0 : List S61) (A1 : Option Addr) (c1 : Nat) (l1 : List S61) (W : World) (hr0 : Kd.C k61 W A0 l0.length l0) (hc0 : l0.length ≤ c0) (hr1 : Kd.C k61 W A1 l1.length l1) (hc1 : l1.length ≤ c1)
   (s1 s2 : Int) (L T L' T' : List S58) (r g : List Int) (b : Bool) (k0 k1 m : Int)
   (e1 : Aside0 (laws_szNoteS.f l0 1048576 = some s1)) (p1 : 0 ≤ s1) (e2 : Aside0 (laws_szNoteS.f l1 s1 = some s2)) (p2 : 0 ≤ s2)
   (e3 : Aside0 (laws_toNoteS.f k l0 = some L)) (e4 : Aside0 (laws_toNoteS.f k l1 = some T)) (e5 : Aside0 (Ans L T r b)) (e6 : Aside0 (Ans L T r b)) (e7 : Aside0 (laws_eqIntS.f k r r = some true)) (e8 : Aside0 (laws_eqNoteS.f k L L = some true)) (e9 : Aside0 (laws_eqNoteS.f k T T = some true))
   (e10 : Aside0 (laws_markNoteS.f k L 1 = some (k0, L'))) (e11 : Aside0 (laws_markNoteS.f k T k0 = some (k1, T'))) (p3 : 0 ≤ k1) (e12 : Aside0 (laws_markIntS.f k r 1 = some (m, g))) (e13 : Aside0 (laws_heldIntS.f k g 1 = some m)) (p4 : 0 ≤ m) :
    Calls Try.prog 3 #[.slice A0 l0.length c0, .slice A1 l1.length c1] W fun e w' => e = .returned (.bool true) ∧ Below W.heap.size W w' := by
  have HR0 := Aside0.mk hr0
  have HR1 := Aside0.mk hr1
  have HC0 := Aside0.mk hc0
  have HC1 := Aside0.mk hc1
  clear hr0 hr1 hc0 hc1
  have H0 := Aside0.mk (Below.refl W.heap.size W)
  go_enter Try.func3, Try.ntmps3
  go_wp2_with fail
  refine (laws_szNoteS.calls A0 c0 l0 1048576 s1 _ HR0.out HC0.out e1.out).mono ?_
  rintro e w1 ⟨rfl, hd⟩
  have H1 := Aside0.mk (below_w H0.out (drawn_below hd)); clear hd
  go_wp2_with fail
  refine (laws_szNoteS.calls A1 c1 l1 s1 s2 _ (Kd.C_below HR1.out H1.out) HC1.out e2.out).mono ?_
  rintro e w2 ⟨rfl, hd⟩
  have H2 := Aside0.mk (below_w H1.out (drawn_below hd)); clear hd
  go_wp2_with fail
  refine (laws_toNoteS.calls k A0 c0 l0 L _ (Kd.C_below HR0.out H2.out) HC0.out e3.out).mono ?_
  rintro e w3 ⟨v3, rfl, hR, hb⟩
  obtain ⟨A3, c3, rfl, hl3, hC3⟩ := Kd.R_reads hR
  have H3 := Aside0.mk (below_w H2.out hb)
  have Q3 := Aside0.mk hC3
  have D3 := Aside0.mk hl3
  clear hR hb hl3 hC3
  go_wp2_with fail
  refine (laws_toNoteS.calls k A1 c1 l1 T _ (Kd.C_below HR1.out H3.out) HC1.out e4.out).mono ?_
  rintro e w4 ⟨v4, rfl, hR, hb⟩
  obtain ⟨A4, c4, rfl, hl4, hC4⟩ := Kd.R_reads hR
  have H4 := Aside0.mk (below_w H3.out hb)
  have Q4 := Aside0.mk hC4
  have D4 := Aside0.mk hl4
  have Q3' := Aside0.mk (Kd.C_below Q3.out hb)
  clear hR hb hl4 hC4 Q3
  go_wp2_with fail
  refine (srhythm_c k A3 c3 L A4 c4 T r b _ Q3'.out D3.out Q4.out D4.out e5.out).mono ?_
  rintro e w5 ⟨v5, rfl, hS, hb⟩
  have S5 := Aside0.mk (R_between H4.out hS)
  have H5 := Aside0.mk (below_w H4.out hb)
  clear hS hb Q3' Q4
  go_wp2_with fail
  refine (laws_toNoteS.calls k A0 c0 l0 L _ (Kd.C_below HR0.out H5.out) HC0.out e3.out).mono ?_
  rintro e w6 ⟨v6, rfl, hR, hb⟩
  have R6 := Aside0.mk (R_between H5.out hR)
  have H6 := Aside0.mk (below_w H5.out hb)
  have S6 := Aside0.mk (Kd.R_below S5.out hb)
  have M6 : w5.heap.size ≤ w6.heap.size := hb.size
  clear hR hb S5
  go_wp2_with fail
  refine (laws_toNoteS.calls k A1 c1 l1 T _ (Kd.C_below HR1.out H6.out) HC1.out e4.out).mono ?_
  rintro e w7 ⟨v7, rfl, hR, hb⟩
  have R7 := Aside0.mk (R_between H6.out hR)
  have H7 := Aside0.mk (below_w H6.out hb)
  have S7 := Aside0.mk (Kd.R_below S6.out hb)
  have R6' := Aside0.mk (Kd.R_below R6.out hb)
  have M7 : w6.heap.size ≤ w7.heap.size := hb.size
  clear hR hb S6 R6
  obtain ⟨A6, c6, rfl, hl6, hC6⟩ := Kd.R_reads R6'.out
  obtain ⟨A7, c7, rfl, hl7, hC7⟩ := Kd.R_reads R7.out
  have Q6 := Aside0.mk hC6
  have D6 := Aside0.mk hl6
  have Q7 := Aside0.mk hC7
  have D7 := Aside0.mk hl7
  clear hC6 hl6 hC7 hl7
  go_wp2_with fail
  refine (irhythm_k k A6 c6 L A7 c7 T r b _ Q6.out D6.out Q7.out D7.out e6.out).mono ?_
  rintro e w8 ⟨v8, rfl, hS, hb⟩
  obtain ⟨n5, hn5⟩ : ∃ n, n = w5.heap.size := ⟨_, rfl⟩
  obtain ⟨n6, hn6⟩ : ∃ n, n = w6.heap.size := ⟨_, rfl⟩
  obtain ⟨n7, hn7⟩ : ∃ n, n = w7.heap.size := ⟨_, rfl⟩
  have Z8 := Aside0.mk (St.mk (below_w H7.out hb) (Kd.R_mono (Kd.R_below S7.out hb) (fun k_ hk => by rw [hn5]; exact hk.2)) (Kd.R_mono (Kd.R_below R6'.out hb) (fun k_ hk => by rw [hn5, hn6]; exact hk)) (Kd.R_mono (Kd.R_below R7.out hb) (fun k_ hk => by rw [hn6, hn7]; exact hk)) (Kd.R_mono (R_between H7.out hS) (fun k_ hk => by rw [hn7]; exact hk.1)) : St W w8 n5 n6 n7 _ _ _ v8 r L T)
  clear hS hb S7 R6' R7 Q6 Q7 D6 D7 H3 H4 H5 H6 H7
  have M56 : n5 ≤ n6 := by rw [hn5, hn6]; exact M6
  have M67 : n6 ≤ n7 := by rw [hn6, hn7]; exact M7
  clear hn5 hn6 hn7 M6 M7
  obtain ⟨A5, c5, rfl, hl5, hC5⟩ := Kd.R_reads Z8.out.s5
  obtain ⟨A8, c8, rfl, hl8, hC8⟩ := Kd.R_reads Z8.out.s8
  have Q5 := Aside0.mk hC5
  have D5 := Aside0.mk hl5
  have Q8 := Aside0.mk hC8
  have D8 := Aside0.mk hl8
  clear hC5 hl5 hC8 hl8
  go_wp2_with fail
  refine (laws_eqIntS.calls k A8 c8 r A5 c5 r true _ Q8.out D8.out Q5.out D5.out e7.out).mono ?_
  rintro e w9 ⟨rfl, hd⟩
  have Z9 := Aside0.mk (Z8.out.step (drawn_below hd))
  clear hd Z8 Q8 Q5
  go_wp2_with fail
  refine (laws_toNoteS.calls k A0 c0 l0 L _ (Kd.C_below HR0.out Z9.out.hb) HC0.out e3.out).mono ?_
  rintro e w10 ⟨v10, rfl, hR, hb⟩
  obtain ⟨A10, c10, rfl, hl, hC⟩ := Kd.R_reads hR
  have Q10 := Aside0.mk hC
  have D10 := Aside0.mk hl
  have Z10 := Aside0.mk (Z9.out.step hb)
  clear hR hb hl hC Z9
  go_wp2_with fail
  obtain ⟨hle6, hC6⟩ := Z10.out.read6
  refine (laws_eqNoteS.calls k A6 c6 L A10 c10 L true _ hC6 hle6 Q10.out D10.out e8.out).mono ?_
  clear hle6 hC6
  rintro e w11 ⟨rfl, hb⟩
  have Z11 := Aside0.mk (Z10.out.step hb)
  clear hb Z10 Q10 D10
  go_wp2_with fail
  refine (laws_toNoteS.calls k A1 c1 l1 T _ (Kd.C_below HR1.out Z11.out.hb) HC1.out e4.out).mono ?_
  rintro e w12 ⟨v12, rfl, hR, hb⟩
  obtain ⟨A12, c12, rfl, hl, hC⟩ := Kd.R_reads hR
  have Q12 := Aside0.mk hC
  have D12 := Aside0.mk hl
  have Z12 := Aside0.mk (Z11.out.step hb)
  clear hR hb hl hC Z11
  go_wp2_with fail
  obtain ⟨hle7, hC7⟩ := Z12.out.read7
  refine (laws_eqNoteS.calls k A7 c7 T A12 c12 T true _ hC7 hle7 Q12.out D12.out e9.out).mono ?_
  clear hle7 hC7
  rintro e w13 ⟨rfl, hb⟩
  have Z13 := Aside0.mk (Z12.out.step hb)
  clear hb Z12 Q12 D12
  go_wp2_with fail
  refine (laws_markNoteS.calls k _ _ L 1 k0 L' W _ Z13.out.hb Z13.out.r6 e10.out).mono ?_
  rintro e w14 ⟨rfl, _, hb, hk⟩
  have H14 := Aside0.mk hb
  have S14 := Aside0.mk (R_kept Z13.out.s5 hk (fun k_ (h1 : k_ < n5) (h2 : n5 ≤ k_ ∧ k_ < n6) => by omega))
  have R14 := Aside0.mk (R_kept Z13.out.r7 hk (fun k_ (h1 : n6 ≤ k_ ∧ k_ < n7) (h2 : n5 ≤ k_ ∧ k_ < n6) => by omega))
  have G14 := Aside0.mk (R_kept Z13.out.s8 hk (fun k_ (h1 : n7 ≤ k_) (h2 : n5 ≤ k_ ∧ k_ < n6) => by omega))
  clear hb hk Z13
  go_wp2_with fail
  refine (laws_markNoteS.calls k _ _ T k0 k1 T' W _ H14.out R14.out e11.out).mono ?_
  rintro e w15 ⟨rfl, _, hb, hk⟩
  have H15 := Aside0.mk hb
  have S15 := Aside0.mk (R_kept S14.out hk (fun k_ (h1 : k_ < n5) (h2 : n6 ≤ k_ ∧ k_ < n7) => by omega))
  have G15 := Aside0.mk (R_kept G14.out hk (fun k_ (h1 : n7 ≤ k_) (h2 : n6 ≤ k_ ∧ k_ < n7) => by omega))
  clear hb hk H14 S14 R14 G14
  have hkb : decide (k1 < 0) = false := decide_eq_false (by omega)
  go_wp2_with fail
  refine (laws_eqIntS.calls k A8 c8 r A5 c5 r true _ (Kd.R_reads' G15.out).2.2 D8.out (Kd.R_reads' S15.out).2.2 D5.out e7.out).mono ?_
  rintro e w16 ⟨rfl, hd⟩
  have H16 := Aside0.mk (below_w H15.out (drawn_below hd))
  have S16 := Aside0.mk (Kd.R_below S15.out (drawn_below hd))
  have G16 := Aside0.mk (Kd.R_below G15.out (drawn_below hd))
  clear hd H15 S15 G15
  go_wp2_with fail
  refine (laws_markIntS.calls k _ _ r 1 m g W _ H16.out G16.out e12.out).mono ?_
  rintro e w17 ⟨rfl, hg, hb, hk⟩
  have H17 := Aside0.mk hb
  have S17 := Aside0.mk (R_kept S16.out hk (fun k_ (h1 : k_ < n5) (h2 : n7 ≤ k_) => by omega))
  have hgl := Aside0.mk (((Kd.R_reads' hg).1).symm : g.length = r.length)
  have G17 := Aside0.mk (Kd.R_mono hg (fun k_ (h1 : n7 ≤ k_ ∨ w16.heap.size ≤ k_) => (trivial : (fun _ : Nat => True) k_)))
  have W17 := Aside0.mk (Nat.le_refl w17.heap.size)
  clear hg hb hk H16 S16 G16
  go_wp2_with fail
  have hc := laws_heldIntS.calls k A8 c8 g 1 m w17 (by have h := (Kd.R_reads' G17.out).2.2; exact h) (by rw [hgl.out]; exact D8.out) e13.out
  rw [hgl.out] at hc
  refine hc.mono ?_
  clear hc
  rintro e w18 ⟨rfl, hd⟩
  have H18 := Aside0.mk (below_w H17.out (drawn_below hd))
  have S18 := Aside0.mk (Kd.R_below S17.out (drawn_below hd))
  have G18 := Aside0.mk (Kd.R_below G17.out (drawn_below hd))
  clear hd H17 S17 G17 W17
  have hm0 : decide (m < 0) = false := decide_eq_false (by omega)
  have hm1 : (m != m) = false := by simp
  go_wp2_with fail
  refine (laws_toNoteS.calls k A0 c0 l0 L _ (Kd.C_below HR0.out H18.out) HC0.out e3.out).mono ?_
  rintro e w19 ⟨v19, rfl, hR, hb⟩
  obtain ⟨A19, c19, rfl, hl, hC⟩ := Kd.R_reads hR
  have Q19 := Aside0.mk hC
  have D19 := Aside0.mk hl
  have H19 := Aside0.mk (below_w H18.out hb)
  have S19 := Aside0.mk (Kd.R_below S18.out hb)
  have G19 := Aside0.mk (Kd.R_below G18.out hb)
  clear hR hb hl hC H18 S18 G18
  go_wp2_with fail
  refine (laws_toNoteS.calls k A1 c1 l1 T _ (Kd.C_below HR1.out H19.out) HC1.out e4.out).mono ?_
  rintro e w20 ⟨v20, rfl, hR, hb⟩
  obtain ⟨A20, c20, rfl, hl, hC⟩ := Kd.R_reads hR
  have Q20 := Aside0.mk hC
  have D20 := Aside0.mk hl
  have Q19' := Aside0.mk (Kd.C_below Q19.out hb)
  have H20 := Aside0.mk (below_w H19.out hb)
  have S20 := Aside0.mk (Kd.R_below S19.out hb)
  have G20 := Aside0.mk (Kd.R_below G19.out hb)
  clear hR hb hl hC H19 S19 G19 Q19
  go_wp2_with fail
  refine (irhythm_k k A19 c19 L A20 c20 T r b _ Q19'.out D19.out Q20.out D20.out e6.out).mono ?_
  rintro e w21 ⟨v21, rfl, hS, hb⟩
  obtain ⟨A21, c21, rfl, hl, hC⟩ := Kd.R_reads hS
  have Q21 := Aside0.mk hC
  have D21 := Aside0.mk hl
  have H21 := Aside0.mk (below_w H20.out hb)
  have S21 := Aside0.mk (Kd.R_below S20.out hb)
  have G21 := Aside0.mk (Kd.R_below G20.out hb)
  clear hS hb hl hC H20 S20 G20 Q19' Q20
  go_wp2_with fail
  refine (laws_eqIntS.calls k A21 c21 r A5 c5 r true _ Q21.out D21.out (Kd.R_reads' S21.out).2.2 D5.out e7.out).mono ?_
  rintro e w22 ⟨rfl, hd⟩
  have H22 := Aside0.mk (below_w H21.out (drawn_below hd))
  have G22 := Aside0.mk (Kd.R_below G21.out (drawn_below hd))
  clear hd H21 S21 G21 Q21
  go_wp2_with fail
  have hc := laws_heldIntS.calls k A8 c8 g 1 m w22 (by have h := (Kd.R_reads' G22.out).2.2; exact h) (by rw [hgl.out]; exact D8.out) e13.out
  rw [hgl.out] at hc
  refine hc.mono ?_
  clear hc
  rintro e w23 ⟨rfl, hd⟩
  have H23 := Aside0.mk (below_w H22.out (drawn_below hd))
  clear hd H22 G22
  go_wp2_with fail
  go_ret
  exact ⟨rfl, H23.out⟩
set_option maxHeartbeats 8000000 in
set_option maxRecDepth 100000 in
theorem walk_long0 (A0 : Option Addr) (c0 : Nat) (l0 : List S61) (A1 : Option Addr) (c1 : Nat) (l1 : List S61) (W : World) (hr0 : Kd.C k61 W A0 l0.length l0) (hc0 : l0.length ≤ c0) (s1 : Int)
   (e1 : Aside0 (laws_szNoteS.f l0 1048576 = some s1)) (p1 : s1 < 0) :
    Calls Try.prog 3 #[.slice A0 l0.length c0, .slice A1 l1.length c1] W fun e w' => e = .returned (.bool true) ∧ Below W.heap.size W w' := by
  have HR0 := Aside0.mk hr0
  have HC0 := Aside0.mk hc0
  clear hr0 hc0
  go_enter Try.func3, Try.ntmps3
  go_wp2_with fail
  refine (laws_szNoteS.calls A0 c0 l0 1048576 s1 _ HR0.out HC0.out e1.out).mono ?_
  rintro e w1 ⟨rfl, hd⟩
  have H1 := Aside0.mk (drawn_below hd); clear hd
  go_wp2_with fail
  go_ret
  exact ⟨rfl, H1.out⟩
set_option maxHeartbeats 8000000 in
set_option maxRecDepth 100000 in
theorem walk_long1 (A0 : Option Addr) (c0 : Nat) (l0 : List S61) (A1 : Option Addr) (c1 : Nat) (l1 : List S61) (W : World) (hr0 : Kd.C k61 W A0 l0.length l0) (hc0 : l0.length ≤ c0) (hr1 : Kd.C k61 W A1 l1.length l1) (hc1 : l1.length ≤ c1) (s1 s2 : Int)
   (e1 : Aside0 (laws_szNoteS.f l0 1048576 = some s1)) (p1 : 0 ≤ s1) (e2 : Aside0 (laws_szNoteS.f l1 s1 = some s2)) (p2 : s2 < 0) :
    Calls Try.prog 3 #[.slice A0 l0.length c0, .slice A1 l1.length c1] W fun e w' => e = .returned (.bool true) ∧ Below W.heap.size W w' := by
  have HR0 := Aside0.mk hr0
  have HR1 := Aside0.mk hr1
  have HC0 := Aside0.mk hc0
  have HC1 := Aside0.mk hc1
  clear hr0 hr1 hc0 hc1
  go_enter Try.func3, Try.ntmps3
  go_wp2_with fail
  refine (laws_szNoteS.calls A0 c0 l0 1048576 s1 _ HR0.out HC0.out e1.out).mono ?_
  rintro e w1 ⟨rfl, hd⟩
  have H1 := Aside0.mk (drawn_below hd); clear hd
  go_wp2_with fail
  refine (laws_szNoteS.calls A1 c1 l1 s1 s2 _ (Kd.C_below HR1.out H1.out) HC1.out e2.out).mono ?_
  rintro e w2 ⟨rfl, hd⟩
  have H2 := Aside0.mk (below_w H1.out (drawn_below hd)); clear hd
  go_wp2_with fail
  go_ret
  exact ⟨rfl, H2.out⟩
theorem walk (A0 : Option Addr) (c0 : Nat) (l0 : List S61) (A1 : Option Addr) (c1 : Nat) (l1 : List S61) (W : World) (hr0 : Kd.C k61 W A0 l0.length l0) (hc0 : l0.length ≤ c0) (hr1 : Kd.C k61 W A1 l1.length l1) (hc1 : l1.length ≤ c1) :
    Calls Try.prog 3 #[.slice A0 l0.length c0, .slice A1 l1.length c1] W fun e w' => e = .returned (.bool true) ∧ Below W.heap.size W w' := by
  have b0 : l0.length ≤ 9223372036854775807 := hr0.2.1
  have b1 : l1.length ≤ 9223372036854775807 := hr1.2.1
  by_cases h0 : l0.length ≤ 1048576
  · have e1 : laws_szNoteS.f l0 1048576 = some (1048576 - (l0.length : Int)) := by
      unfold laws_szNoteS.f
      rw [w64 (by omega) (by omega), if_neg (by omega)]
    by_cases h1 : l0.length + l1.length ≤ 1048576
    · have e2 : laws_szNoteS.f l1 (1048576 - (l0.length : Int)) = some (1048576 - (l0.length : Int) - (l1.length : Int)) := by
        unfold laws_szNoteS.f
        rw [w64 (by omega) (by omega), if_neg (by omega)]
      obtain ⟨k, L, T, L', T', r, g, b, k0, k1, m, g1, g2, g3, g4, g5, g6, g7, g8, g9, g10, g11, g12, g13⟩ := law_facts l0 l1 (by omega) (by omega)
      exact walk_main k A0 c0 l0 A1 c1 l1 W hr0 hc0 hr1 hc1 _ _ L T L' T' r g b k0 k1 m ⟨e1⟩ (by omega) ⟨e2⟩ (by omega) ⟨g1⟩ ⟨g2⟩ ⟨g3⟩ ⟨g4⟩ ⟨g5⟩ ⟨g6⟩ ⟨g7⟩ ⟨g8⟩ ⟨g9⟩ g10 ⟨g11⟩ ⟨g12⟩ g13
    · have e2 : laws_szNoteS.f l1 (1048576 - (l0.length : Int)) = some (-1) := by
        unfold laws_szNoteS.f
        rw [w64 (by omega) (by omega), if_pos (by omega)]
      exact walk_long1 A0 c0 l0 A1 c1 l1 W hr0 hc0 hr1 hc1 _ _ ⟨e1⟩ (by omega) ⟨e2⟩ (by omega)
  · have e1 : laws_szNoteS.f l0 1048576 = some (-1) := by
      unfold laws_szNoteS.f
      rw [w64 (by omega) (by omega), if_pos (by omega)]
    exact walk_long0 A0 c0 l0 A1 c1 l1 W hr0 hc0 _ ⟨e1⟩ (by omega)

end Go.Proofs.Ythhlmjcfhfkmdaa.Rhy
