/- The walk of hist.Get. -/
import Derived.Test.YtbafepjmogigjaaHistC
import Derived.Test.YtbafepjmogigjaaHistGPure
import Derived.Lib.Strings
import Derived.Lib.IndexBytes
namespace Go.Proofs.Ytbafepjmogigjaa
set_option linter.unusedSimpArgs false
set_option linter.unusedVariables false
open Go.RowKit

def RetGetH (o : Option (Nat × Items × List UInt8)) (W : World) (F : List Chunk) (e : Ending) (w' : World) : Prop :=
  match o with
  | none => e = .returned (.tuple #[.pointer none, .string ⟨#[]⟩, .int .i64 2]) ∧ Own W w' F
  | some (k, l, r) => ∃ b L, e = .returned (.tuple #[.pointer (some ⟨b, 0, none⟩), .string ⟨r.toArray⟩, .int .i64 0]) ∧ HistC k l b L ∧ HOk k l ∧ Own W w' (L ++ F)

theorem getHist_short {s : List UInt8} (h : s.length < 3) : getHist s = none := by
  match s, h with
  | [], _ => rfl
  | [_], _ => rfl
  | [_, _], _ => rfl
  | _ :: _ :: _ :: _, h => simp at h; omega

theorem getHist_long {s : ByteArray} (h : 3 ≤ s.size) : getHist s.data.toList =
    if 4 < s[0].toNat ∨ s.size - 3 < 10 * beNum ((s.data.toList.drop 1).take 2) then none else (getItems s[0].toNat (beNum ((s.data.toList.drop 1).take 2)) (s.data.toList.drop 3) (-2147483649) []).map fun (l, r) => (s[0].toNat, l, r) := by
  obtain ⟨⟨l⟩⟩ := s
  match l, h with
  | b0 :: b1 :: b2 :: rest, _ =>
    have e1 : (ByteArray.mk { toList := b0 :: b1 :: b2 :: rest }).size - 3 = rest.length := by simp [ByteArray.size]
    rw [e1]
    rfl

theorem bytes_eq (s : ByteArray) : (⟨s.data.toList.toArray⟩ : ByteArray) = s := by simp

set_option maxRecDepth 100000 in
set_option maxHeartbeats 2000000 in
theorem GetH_walk (s : ByteArray) (hs : s.size ≤ 4611686018427387904) (W w : World) (F : List Chunk) (hO : Own W w F) :
    Calls Try.prog 75 #[.string s] w (RetGetH (getHist s.data.toList) W F) := by
  have H := Lib.hid hO
  clear hO
  by_cases h3 : s.size < 3
  · rw [getHist_short (by simpa using h3)]
    have hb : (s.size : Int) < 3 := by omega
    go_enter Try.func75, Try.ntmps75
    go_wp2
    go_step3
    go_wp2
    rw [Exit.noGoto_ret]
    go_ret3
    exact ⟨rfl, H.out⟩
  · have h0 : 0 < s.size := by omega
    rw [getHist_long (by omega)]
    have hb : decide ((s.size : Int) < 3) = false := decide_eq_false (by omega)
    have hb3 : (3 : Int) ≤ (s.size : Int) := by omega
    obtain ⟨kb, hkb⟩ : ∃ kb, kb = (s[0]'h0).toNat := ⟨_, rfl⟩
    have hkl : kb < 256 := by rw [hkb]; exact (s[0]'h0).toNat_lt
    have hw0 : wrap64 ((s[0]'h0).toNat : Int) = (kb : Int) := by rw [← hkb]; unfold wrap64; omega
    obtain ⟨many, hmany⟩ : ∃ many, many = beNum ((s.data.toList.drop 1).take 2) := ⟨_, rfl⟩
    have hm2 : beNum (s.extract 1 3).data.toList = many := by rw [hmany, Lib.extract_data]
    have hml : many < 65536 := by
      rw [hmany]
      refine Nat.lt_of_lt_of_le (beNum_lt _) ?_
      have : ((s.data.toList.drop 1).take 2).length ≤ 2 := by simp; omega
      exact Nat.le_trans (Nat.pow_le_pow_right (by omega) this) (by decide)
    have hw1 : wrap64 (many : Int) = (many : Int) := by unfold wrap64; omega
    have hw2 : wrap64 (10 * (many : Int)) = 10 * (many : Int) := by unfold wrap64; omega
    have hw3 : IntKind.i64.wrap (many : Int) = (many : Int) := by rw [IntKind.wrap_i64]; omega
    have hw4 : IntKind.i64.wrap (10 * (many : Int)) = 10 * (many : Int) := by rw [IntKind.wrap_i64]; omega
    have HML := Lib.hid hml
    have HS := Lib.hid hs
    have hx1 : (s.extract 1 3).size ≤ 8 := by simp; omega
    rw [← hkb, ← hmany]
    have HKB := Lib.hid hkb
    have HMN := Lib.hid hmany
    have HM2 := Lib.hid hm2
    have HX1 := Lib.hid hx1
    clear hkb hmany hm2 hx1 hml hs
    by_cases hk : 4 < kb
    · rw [if_pos (.inl hk)]
      go_enter Try.func75, Try.ntmps75
      go_wp2
      go_step3
      go_wp2_with fail
      refine (New_no (kb : Int) (.inr (by omega)) _).mono ?_
      rintro e w1 ⟨rfl, rfl⟩
      go_wp2_with fail
      refine (get_walk (s.extract 1 3) HX1.out _).mono ?_
      rintro e w1 ⟨rfl, rfl⟩
      rw [HM2.out]
      go_wp2
      rw [Exit.noGoto_ret]
      go_ret3
      exact ⟨rfl, H.out⟩
    · by_cases hsh : s.size - 3 < 10 * many
      · rw [if_pos (.inr hsh)]
        have hb4 : decide ((s.size : Int) - 3 < 10 * (many : Int)) = true := decide_eq_true (by omega)
        go_enter Try.func75, Try.ntmps75
        go_wp2
        go_step3
        go_wp2_with fail
        refine (New_yes kb (by omega) W _ _ H.out).mono ?_
        rintro e w1 ⟨b, rfl, hO1⟩
        have H1 := Lib.hid hO1
        clear hO1
        go_wp2_with fail
        refine (get_walk (s.extract 1 3) HX1.out _).mono ?_
        rintro e w2 ⟨rfl, rfl⟩
        rw [HM2.out]
        go_wp2
        rw [Exit.noGoto_ret]
        go_ret3
        exact ⟨rfl, H1.out.le (fun a => by simp only [cnt_append, cnt_cons, cnt_nil]; omega)⟩
      · rw [if_neg (by omega)]
        have hb4 : decide ((s.size : Int) - 3 < 10 * (many : Int)) = false := decide_eq_false (by omega)
        have hb5 : decide (((s.size - 3 : Nat) : Int) < 10 * (many : Int)) = false := decide_eq_false (by omega)
        have hsz : 10 * many ≤ (s.extract 3 s.size).size := by simp; omega
        have hdt : (s.extract 3 s.size).data.toList = s.data.toList.drop 3 := Lib.extract_to_end s 3
        rw [← hdt]
        generalize hG : getItems kb many (s.extract 3 s.size).data.toList (-2147483649) [] = G
        have HG := Lib.hid hG
        clear hG
        have HSZ := Lib.hid hsz
        clear hsz hdt hsh
        go_enter Try.func75, Try.ntmps75
        go_wp2
        go_step3
        go_wp2_with fail
        refine (New_yes kb (by omega) W _ _ H.out).mono ?_
        rintro e w1 ⟨b, rfl, hO1⟩
        have H1 := Lib.hid hO1
        clear hO1
        go_wp2_with fail
        refine (get_walk (s.extract 1 3) HX1.out _).mono ?_
        rintro e w2 ⟨rfl, rfl⟩
        rw [HM2.out]
        go_wp2_with fail
        go_step3
        go_wp2_with fail
        clear hw0 hw1 hw2 hw3 hw4 hb4 hb5 hb
        generalize s.extract 3 s.size = s3 at *
        go_loopw [0, 7, 8] (fun sv m la wr => ∃ (r : ByteArray) (j : Nat) (lastI : Int) (acc : Items), sv = .string r ∧ m = .int .i64 (j : Int) ∧ la = .int .i64 lastI ∧
          Hid (j ≤ many ∧ 10 * j ≤ r.size ∧ HOk kb acc ∧ G = getItems kb j r.data.toList lastI acc ∧ ∃ L, HistC kb acc b L ∧ Own W wr (L ++ F))) (fun _ m _ _ => (intOf m).toNat)
        case atStart => exact ⟨s3, many, -2147483649, [], rfl, rfl, rfl, Nat.le_refl _, HSZ.out, HOk.nil (by omega), HG.out.symm, _, ⟨_, [], RowC.nil _ _, rfl⟩, H1.out⟩
        case round =>
          obtain ⟨r, j, lastI, acc, rfl, rfl, rfl, hq⟩ := hrel
          rcases Nat.eq_zero_or_pos j with rfl | hj0
          ·
            go_wp2
            rw [Exit.noGoto_ret]
            go_ret3
            obtain ⟨hjm, hr, hok, hge, L, hC, hO⟩ := hq.out
            rw [hge]
            exact ⟨b, L, by show Ending.returned (.tuple #[.pointer (some ⟨b, 0, none⟩), .string r, .int .i64 0]) = _; rw [bytes_eq], hC, hok, hO⟩
          · obtain ⟨j1, hj1⟩ : ∃ j1, j = j1 + 1 := ⟨j - 1, by omega⟩
            obtain ⟨hjm, hr, hok, hge, L, hC, hO⟩ := hq.out
            have hr4 : (4 : Int) ≤ (r.size : Int) := by omega
            have hr10 : (10 : Int) ≤ (r.size : Int) := by omega
            have hx4 : (r.extract 0 4).size ≤ 8 := by simp; omega
            have hx6 : (r.extract 4 10).size ≤ 8 := by simp; omega
            have hy4 : beNum (r.extract 0 4).data.toList = beNum (r.data.toList.take 4) := by rw [Lib.extract_data]; rfl
            have hy6 : beNum (r.extract 4 10).data.toList = beNum ((r.data.toList.drop 4).take 6) := by rw [Lib.extract_data]
            have hl4 : beNum (r.data.toList.take 4) < 4294967296 := by
              refine Nat.lt_of_lt_of_le (beNum_lt _) ?_
              have : (r.data.toList.take 4).length ≤ 4 := by simp; omega
              exact Nat.le_trans (Nat.pow_le_pow_right (by omega) this) (by decide)
            rw [hj1] at hge
            unfold getItems at hge
            have HJ := Lib.hid hj1
            clear hj1
            simp only at hge
            rw [show r.data.toList.drop 10 = (r.extract 10 r.size).data.toList from (Lib.extract_to_end r 10).symm] at hge
            generalize beNum (r.data.toList.take 4) = a4 at *
            generalize beNum ((r.data.toList.drop 4).take 6) = m6 at *
            obtain ⟨x, hx⟩ : ∃ x : Int, x = (a4 : Int) - 2147483648 := ⟨_, rfl⟩
            have hv1 : IntKind.i64.wrap (a4 : Int) = (a4 : Int) := by rw [IntKind.wrap_i64]; omega
            have hv2 : IntKind.i64.wrap ((a4 : Int) - 2147483648) = x := by rw [IntKind.wrap_i64]; omega
            rw [← hx] at hge
            have HX4 := Lib.hid hx4
            have HX6 := Lib.hid hx6
            have HY4 := Lib.hid hy4
            have HY6 := Lib.hid hy6
            have HX := Lib.hid hx
            have HC := Lib.hid hC
            have HO := Lib.hid hO
            have HK := Lib.hid hok
            have HGE := Lib.hid hge
            have HR := Lib.hid hr
            have HJM := Lib.hid hjm
            clear hjm
            clear hx4 hx6 hy4 hy6 hl4 hx hC hO hok hge hr hq
            go_upto_region 11 with fail
            go_cut [9] (fun p wx => ∃ bx : Nat, p = .pointer (some ⟨bx, 0, none⟩) ∧ Hid (Own W wx ((bx, .cells #[.int .i64 x, .int .u64 (m6 : Int)] 35 (0, 0)) :: (L ++ F))))
            case first =>
              go_region_held3 (fun _ => True) (trivial)
                (first
                  | (go_at_call 115; ((with_reducible refine (get_walk (r.extract 0 4) HX4.out _).mono ?_); rintro e w2 ⟨rfl, rfl⟩; rw [HY4.out]))
                  | (go_at_call 115; ((with_reducible refine (get_walk (r.extract 4 10) HX6.out _).mono ?_); rintro e w2 ⟨rfl, rfl⟩; rw [HY6.out])))
              all_goals (go_wp2_with fail; go_meet; exact ⟨wr.heap.size, rfl, (HO.out.alloc _).drew⟩)
            case rest =>
              obtain ⟨bx, rfl, hOx⟩ := hcut
              obtain ⟨sv, hb0⟩ := HC.out.block (F := (bx, .cells #[.int .i64 x, .int .u64 (m6 : Int)] 35 (0, 0)) :: F) (hOx.out.le (fun a => by simp only [cnt_append, cnt_cons, cnt_nil]; omega))
              have c0 := cell_at (i := 0) hb0 rfl
              have c2 := cell_at (i := 2) hb0 rfl
              have e0 := hOx.out.cell (i := 0) (.head _) rfl
              have e1 := hOx.out.cell (i := 1) (.head _) rfl
              have hk4 : kb ≤ 4 := by omega
              have hmb : ∀ X : List Chunk, (b, histObj kb sv (total acc)) ∈ ((bx, Obj.cells #[.int .i64 x, .int .u64 (m6 : Int)] 35 (0, 0)) :: (L ++ F)) := fun _ => by
                obtain ⟨sv', L', _, rfl⟩ := HC.out
                have h1 := hOx.out.get (b := b) (o := histObj kb sv' (total acc)) (.tail _ (.head _))
                rw [hb0] at h1
                cases h1
                exact .tail _ (.head _)
              have HMB := Lib.hid (fun u : Unit => hmb [])
              have HMT := Lib.hid HK.out.most
              clear hmb hb0
              cases hin : bIn kb x with
              | false =>
                have HI := Lib.hid hin
                have hnone : G = none := by rw [HGE.out]; simp [badItem, hin]
                have HNO := Lib.hid hnone
                clear hin hnone
                go_wp2_with fail
                go_region_held3 (fun w' => w'.cell? ⟨b, 0, none⟩ = some (.int .i64 (kb : Int)) ∧ w'.cell? ⟨bx, 0, none⟩ = some (.int .i64 x))
                  (first | go_keep | exact ⟨cell_at (i := 0) (hO2.get (HMB.out ())) rfl, hO2.cell (i := 0) (.head _) rfl⟩)
                  ((go_at_call 88; refine (Bounds_out kb x hk4 HI.out W _ ((bx, .cells #[.int .i64 x, .int .u64 (m6 : Int)] 35 (0, 0)) :: (L ++ F)) hOx.out.drew).mono ?_; rintro e w2 ⟨rfl, hO2⟩))
                have H2 := Lib.hid hO2
                rename_i hS
                clear hS hO2 c0 c2 e0 e1
                have e0 := H2.out.cell (i := 0) (.head _) rfl
                have e1 := H2.out.cell (i := 1) (.head _) rfl
                have c2 := cell_at (i := 2) (H2.out.get (HMB.out ())) rfl
                go_wp2_with fail
                go_quiet (fail)
                go_wp2
                rw [Exit.noGoto_ret]
                go_ret3
                rw [HNO.out]
                exact ⟨rfl, (H2.out.drewN _).le (fun a => by simp only [cnt_append, cnt_cons, cnt_nil]; omega)⟩
              | true =>
                have HI := Lib.hid hin
                clear hin
                go_wp2_with fail
                go_region_held3 (fun w' => w'.cell? ⟨b, 0, none⟩ = some (.int .i64 (kb : Int)) ∧ w'.cell? ⟨bx, 0, none⟩ = some (.int .i64 x))
                  (first | go_keep | exact ⟨cell_at (i := 0) (hO2.get (HMB.out ())) rfl, hO2.cell (i := 0) (.head _) rfl⟩)
                  ((go_at_call 88; refine (Bounds_in kb x hk4 HI.out W _ ((bx, .cells #[.int .i64 x, .int .u64 (m6 : Int)] 35 (0, 0)) :: (L ++ F)) hOx.out.drew).mono ?_; rintro e w2 ⟨rfl, hO2⟩))
                have H2 := Lib.hid hO2
                rename_i hS
                clear hS hO2 c0 c2 e0 e1
                have e0 := H2.out.cell (i := 0) (.head _) rfl
                have e1 := H2.out.cell (i := 1) (.head _) rfl
                have c2 := cell_at (i := 2) (H2.out.get (HMB.out ())) rfl
                have hw5 : IntKind.u64.wrap ((1099511627776 : Int) - (total acc : Int)) = (1099511627776 : Int) - (total acc : Int) := by rw [IntKind.wrap_u64]; have := HMT.out; omega
                by_cases g1 : m6 = 0
                · have hnone : G = none := by
                    have hbad : badItem kb x m6 lastI acc = true := by simp [badItem, g1]
                    rw [HGE.out, if_pos hbad]
                  have HNO := Lib.hid hnone
                  have b1 : ((m6 : Int) == 0) = true := by simp; omega
                  clear hnone
                  go_wp2_with fail
                  go_quiet (fail)
                  go_wp2
                  rw [Exit.noGoto_ret]
                  go_ret3
                  rw [HNO.out]
                  exact ⟨rfl, (H2.out.drewN _).le (fun a => by simp only [cnt_append, cnt_cons, cnt_nil]; omega)⟩
                · have b1 : ((m6 : Int) == 0) = false := by simp; omega
                  by_cases g2 : x ≤ lastI
                  · have hnone : G = none := by
                      have hbad : badItem kb x m6 lastI acc = true := by simp [badItem, g2]
                      rw [HGE.out, if_pos hbad]
                    have HNO := Lib.hid hnone
                    have b2 : decide (x ≤ lastI) = true := decide_eq_true g2
                    clear hnone
                    go_wp2_with fail
                    go_quiet (fail)
                    go_wp2
                    rw [Exit.noGoto_ret]
                    go_ret3
                    rw [HNO.out]
                    exact ⟨rfl, (H2.out.drewN _).le (fun a => by simp only [cnt_append, cnt_cons, cnt_nil]; omega)⟩
                  · have b2 : decide (x ≤ lastI) = false := decide_eq_false g2
                    by_cases g3 : 1099511627776 - total acc < m6
                    · have hnone : G = none := by
                        have hbad : badItem kb x m6 lastI acc = true := by
                          unfold badItem; rw [decide_eq_true g3]; simp
                        rw [HGE.out, if_pos hbad]
                      have HNO := Lib.hid hnone
                      have b3 : decide ((1099511627776 : Int) - (total acc : Int) < (m6 : Int)) = true := decide_eq_true (by have := HMT.out; omega)
                      clear hnone g3
                      go_wp2_with fail
                      go_quiet (fail)
                      go_wp2
                      rw [Exit.noGoto_ret]
                      go_ret3
                      rw [HNO.out]
                      exact ⟨rfl, (H2.out.drewN _).le (fun a => by simp only [cnt_append, cnt_cons, cnt_nil]; omega)⟩
                    · have b3 : decide ((1099511627776 : Int) - (total acc : Int) < (m6 : Int)) = false := decide_eq_false (by have := HMT.out; omega)
                      have hnext : G = getItems kb j1 (r.extract 10 r.size).data.toList x (addItem acc x m6) := by
                        have hbad : badItem kb x m6 lastI acc = false := by
                          unfold badItem; rw [decide_eq_false g3, decide_eq_false g2, decide_eq_false g1, HI.out]; rfl
                        rw [HGE.out, if_neg (by rw [hbad]; exact Bool.false_ne_true)]
                      have HNX := Lib.hid hnext
                      have hmt : total acc + m6 ≤ 1099511627776 := by have := HMT.out; omega
                      have HT := Lib.hid hmt
                      clear hnext g3 hmt
                      go_wp2_with fail
                      go_quiet (fail)
                      go_wp2_with fail
                      refine (more_walk kb acc b L ((bx, .cells #[.int .i64 x, .int .u64 (m6 : Int)] 35 (0, 0)) :: F) x m6 W _ HK.out HT.out HC.out ((H2.out.drewN _).le (fun a => by simp only [cnt_append, cnt_cons, cnt_nil]; omega))).mono ?_
                      rintro e w3 ⟨rfl, L3, hC3, hO3⟩
                      have f0 := hO3.cell (i := 0) (List.mem_append_right _ (.head _)) rfl
                      have HC3 := Lib.hid hC3
                      have HO3 := Lib.hid hO3
                      clear hC3 hO3
                      go_wp2_with fail
                      go_quiet (fail)
                      go_wp2
                      have hjj : wrap64 ((j : Int) - 1) = (j1 : Int) := by have := HJ.out; have := HJM.out; have := HML.out; unfold wrap64; omega
                      rw [hjj]
                      refine ⟨⟨r.extract 10 r.size, j1, x, addItem acc x m6, rfl, rfl, rfl, by have := HJ.out; have := HJM.out; omega, ?_, HK.out.add (by omega) HI.out HT.out, HNX.out, L3, HC3.out, (HO3.out.drewN _).le (fun a => by simp only [cnt_append, cnt_cons, cnt_nil]; omega)⟩, by simp only [intOf]; have := HJ.out; omega⟩
                      have := HR.out; have := HJ.out; simp; omega

end Go.Proofs.Ytbafepjmogigjaa
