import Derived.Test.YtgkcnpfldkjnbaaGreatProg
import Derived.Ground.SlsfProg
import Derived.Shelf.SlLaysF0
import Derived.Shelf.SlSortCmp.InsertionK
import Derived.Test.YtgkcnpfldkjnbaaGreatMA8
import Derived.Shelf.Small.Strs
import Derived.Shelf.Lays
import Derived.Test.YtgkcnpfldkjnbaaGreatMA7
import Derived.Test.YtgkcnpfldkjnbaaGreatMA6
import Derived.Test.YtgkcnpfldkjnbaaGreatMA5
/- The library's insertion sort at these elements: laid as the kit's theorem asks (printed by laysg.sh; a template: 98 the function, 50 24 55 the types). -/
namespace Go.Proofs
open Go.Shelf
def Tryz.lins_ren : Go.Shelf.Ren := ⟨fun | 20 => 98 | n => n, fun | 24 => 50 | 22 => 24 | 3 => 3 | 25 => 55 | 4 => 4 | 0 => 0 | n => n, fun | n => n⟩
theorem Tryz.lins : Go.Proofs.SlLaysF0.n20 Tryz.prog Tryz.lins_ren := {
  mixed := by kernel_rfl,
  f20 := ⟨"slices.insertionSortCmpFunc[loop.example/g00964/impl.Def]", by decide, Tryz.func98.trans (congrArg some (by kernel_rfl))⟩,
  t0 := Tryz.underlying0,
  a0 := Tryz.isAgg0,
  z0 := Tryz.sizeOf0,
  v0 := Tryz.zeroValue0,
  t3 := Tryz.underlying3,
  a3 := Tryz.isAgg3,
  z3 := Tryz.sizeOf3,
  v3 := Tryz.zeroValue3,
  t4 := Tryz.underlying4,
  a4 := Tryz.isAgg4,
  z4 := Tryz.sizeOf4,
  v4 := Tryz.zeroValue4,
  t22 := Tryz.underlying24,
  a22 := Tryz.isAgg24,
  z22 := Tryz.sizeOf24,
  v22 := Tryz.zeroValue24,
  t25 := Tryz.underlying55,
  a25 := Tryz.isAgg55,
  z25 := Tryz.sizeOf55,
  v25 := Tryz.zeroValue55 }
end Go.Proofs

namespace Go.Proofs
open Go.Shelf Go.RowKit Go.Lib Go.Sort
set_option linter.unusedVariables false
variable {α : Type} [Inhabited α]
theorem QV.ins_calls (k : Nat) (aE : ∀ w, (isAgg 50).run Tryz.prog w = .ok true w) (zE : ∀ w, (Go.sizeOf 50).run Tryz.prog w = .ok k w) (enc : α → List Value) (cf : α → α → Int) (g : Nat) (cb : Array Value) (blk off cap a b : Nat) (d0 d : Array α) (w0 w : World)
    (eg : ∀ args w, (callFunc g args).run Tryz.prog w = .ok (.enter g args) w) (hcmp : CmpLays Tryz.prog g cb enc k cf blk off d0.size w0) (R : RowK enc k w0 blk off d0) (hs : d.size = d0.size) (S : SWK enc k w0 blk off d w) (hO : SWO (ltOf cf)) (hab : a ≤ b) (hb : b ≤ d0.size) (hsz : d0.size < 4611686018427387904) :
    Calls Tryz.prog 98 #[.slice (some ⟨blk, off, none⟩) d0.size cap, .int .i64 a, .int .i64 b, .func (.func g) #[] cb] w fun e w' => e = .returned (.tuple #[]) ∧ SWK enc k w0 blk off (Sort.insertionSort (ltOf cf) d a b) w' ∧ (Sort.insertionSort (ltOf cf) d a b).size = d0.size := by
  have hz : (Sort.insertionSort (ltOf cf) d a b).size = d.size := (QV.ins_post hO hab (by omega)).size
  have hC : CmpLays Tryz.prog g cb enc k cf blk off d.size w := by
    intro m os dk hdk x y
    obtain ⟨n1, o1, e1⟩ := S
    have := sortWorldK_on enc k w0 blk off n1 m d dk o1 os R.hblk hdk
    rw [← e1] at this
    rw [this]
    exact hcmp _ _ dk (hdk.trans hs) x y
  have h := AnyQ.insertionSortCmpFunc Tryz.lins k aE zE enc R.hk R.h1 cf g cb blk off cap a b d w eg hC (S.holds R.hblk R.hH hs) (S.lt R.hblk) hab (by omega) (by omega)
  rw [hs] at h
  refine h.mono ?_
  rintro e w' ⟨he, n, os, hw⟩
  exact ⟨he, by rw [hw]; exact S.on R.hblk n _ os hz, hz.trans hs⟩
set_option maxHeartbeats 8000000 in
set_option maxRecDepth 1000000 in
theorem QV.stable_calls (k : Nat) (aE : ∀ w, (isAgg 50).run Tryz.prog w = .ok true w) (zE : ∀ w, (Go.sizeOf 50).run Tryz.prog w = .ok k w) (enc : α → List Value) (cf : α → α → Int) (g : Nat) (cb : Array Value) (blk off cap : Nat) (d : Array α) (w : World)
    (eg : ∀ args w, (callFunc g args).run Tryz.prog w = .ok (.enter g args) w) (hcmp : CmpLays Tryz.prog g cb enc k cf blk off d.size w) (R : RowK enc k w blk off d) (S : SWK enc k w blk off d w) (hO : SWO (ltOf cf)) (hsz : d.size < 2305843009213693952) :
    Calls Tryz.prog 61 #[.slice (some ⟨blk, off, none⟩) d.size cap, .int .i64 d.size, .func (.func g) #[] cb] w fun e w' => e = .returned (.tuple #[]) ∧ SWK enc k w blk off (QV.stableA (ltOf cf) d) w' := by
  have mixed : Tryz.prog.follows .mixedOrders = true := by kernel_rfl
  have t0 := Tryz.underlying0; have a0 := Tryz.isAgg0; have z0 := Tryz.sizeOf0; have v0 := Tryz.zeroValue0; have t3 := Tryz.underlying3; have a3 := Tryz.isAgg3; have z3 := Tryz.sizeOf3; have v3 := Tryz.zeroValue3; have t4 := Tryz.underlying4; have a4 := Tryz.isAgg4; have z4 := Tryz.sizeOf4; have v4 := Tryz.zeroValue4; have t22 := Tryz.underlying24; have a22 := Tryz.isAgg24; have z22 := Tryz.sizeOf24; have v22 := Tryz.zeroValue24; have t25 := Tryz.underlying55; have a25 := Tryz.isAgg55; have z25 := Tryz.sizeOf55; have v25 := Tryz.zeroValue55
  have FG := Tryz.func61
  have FN : Tryz.f61.ntmps = 63 := rfl
  have E98 : ∀ args w, (callFunc 98 args).run Tryz.prog w = .ok (.enter 98 args) w := enters_of Tryz.func98 (by kernel_rfl) rfl
  have E99 : ∀ args w, (callFunc 99 args).run Tryz.prog w = .ok (.enter 99 args) w := enters_of Tryz.func99 (by kernel_rfl) rfl
  have INS : Aside _ := fun (a b : Nat) (d' : Array α) (w' : World) (hs : d'.size = d.size) (S' : SWK enc k w blk off d' w') (hab : a ≤ b) (hb : b ≤ d.size) => QV.ins_calls k aE zE enc cf g cb blk off cap a b d d' w w' eg hcmp R hs S' hO hab hb (by omega)
  have SYM : Aside _ := QV.symMerge_calls k aE zE enc cf g cb blk off cap d w eg hcmp R (by omega)
  obtain ⟨n, hn⟩ : ∃ n, d.size = n := ⟨_, rfl⟩
  have HN : Aside (d.size = n) := hn
  have RES : Aside (QV.stableA (ltOf cf) d = QV.mrgAll (ltOf cf) n 20 (QV.blk1 (ltOf cf) n 20 0 d)) := by
    show _ = _
    rw [QV.stableA, hn]
  have S0 : Aside (SWK enc k w blk off d w) := S
  rw [hn] at INS SYM hsz ⊢
  clear S hcmp R hO hn
  go_enter FG, FN
  go_wp2
  go_loopg [7, 8] n (fun kx s7 s8 wr => ∃ (a : Nat) (dk : Array α), s7 = .int .i64 a ∧ s8 = .int .i64 (a + 20 : Nat) ∧ a ≤ n ∧ n - a ≤ kx ∧ dk.size = n ∧ Aside (SWK enc k w blk off dk wr) ∧ Aside (QV.blk1 (ltOf cf) n 20 a dk = QV.blk1 (ltOf cf) n 20 0 d))
  case atStart => exact ⟨0, d, rfl, rfl, by omega, by omega, HN.out, S0, rfl⟩
  case round =>
    clear S0
    obtain ⟨a, dk, rfl, rfl, han, hkx, hds, S1, heq⟩ := hrel
    by_cases hl : a + 20 ≤ n
    · have hlz : ((a + 20 : Nat) : Int) ≤ (n : Int) := by omega
      have hc := INS.out a (a + 20) dk wr hds S1.out (by omega) hl
      have heq2 : Aside (QV.blk1 (ltOf cf) n 20 (a + 20) (Sort.insertionSort (ltOf cf) dk a (a + 20)) = QV.blk1 (ltOf cf) n 20 0 d) := by
        have h := heq.out
        rw [QV.blk1, dif_pos ⟨hl, by omega⟩] at h
        exact h
      clear S1 heq
      go_wp2_with (go_at_fn 98; refine hc.mono ?_; rintro e w1 ⟨rfl, hw1, hz1⟩)
      go_roundg (n - (a + 20))
      case measure => omega
      case rel => exact ⟨a + 20, _, rfl, by first | rfl | (congr 1 <;> omega), hl, Nat.le_refl _, hz1, hw1, heq2⟩
    · have hlz : ¬ ((a + 20 : Nat) : Int) ≤ (n : Int) := by omega
      have hc := INS.out a n dk wr hds S1.out han (Nat.le_refl _)
      have RES2 : Aside (QV.stableA (ltOf cf) d = QV.mrgAll (ltOf cf) n 20 (Sort.insertionSort (ltOf cf) dk a n)) := by
        show _ = _
        have h := heq.out
        rw [QV.blk1, dif_neg (by omega)] at h
        rw [RES.out, ← h]
      clear S1 heq RES
      generalize Sort.insertionSort (ltOf cf) dk a n = D at hc RES2
      go_wp2_with (go_at_fn 98; refine hc.mono ?_; rintro e w1 ⟨rfl, hw1, hz1⟩)
      have S3 : Aside (SWK enc k w blk off D w1) := hw1
      clear hw1 hc
      go_loopg [6] n (fun kx s6 wq => ∃ (B : Nat) (dq : Array α), s6 = .int .i64 B ∧ 20 ≤ B ∧ B ≤ 2 * n + 20 ∧ n - B ≤ kx ∧ dq.size = n ∧ Aside (SWK enc k w blk off dq wq) ∧ Aside (QV.mrgAll (ltOf cf) n B dq = QV.stableA (ltOf cf) d))
      case atStart => exact ⟨20, D, rfl, by omega, by omega, by omega, hz1, S3, RES2.out.symm⟩
      case round =>
        clear S3 RES2
        obtain ⟨B, dq, rfl, hB, hB2, hkq, hdq, S4, hall⟩ := hrel
        by_cases hBn : B < n
        · have hBz : (B : Int) < (n : Int) := by omega
          have hall2 : Aside (QV.mrgAll (ltOf cf) n (2 * B) (QV.mrg (ltOf cf) n B 0 dq) = QV.stableA (ltOf cf) d) := by
            have h := hall.out
            rw [QV.mrgAll, dif_pos ⟨hBn, by omega⟩] at h
            exact h
          clear hall
          go_wp2
          go_loopg [7, 8] n (fun kx s7 s8 wr => ∃ (a : Nat) (dk : Array α), s7 = .int .i64 a ∧ s8 = .int .i64 (a + 2 * B : Nat) ∧ a ≤ n ∧ n - a ≤ kx ∧ dk.size = n ∧ Aside (SWK enc k w blk off dk wr) ∧ Aside (QV.mrg (ltOf cf) n B a dk = QV.mrg (ltOf cf) n B 0 dq))
          case atStart => exact ⟨0, dq, rfl, by first | rfl | (congr 1 <;> omega), by omega, by omega, hdq, S4, rfl⟩
          case round =>
            clear S4
            obtain ⟨c, dr, rfl, rfl, hcn, hkr, hdr, S5, hm⟩ := hrel
            by_cases hl3 : c + 2 * B ≤ n
            · have hz3 : ((c + 2 * B : Nat) : Int) ≤ (n : Int) := by omega
              have hc := SYM.out (2 * B) c (c + B) (c + 2 * B) dr wr hdr S5.out (by omega) (by omega) (by omega) hl3
              rw [show ((c + B : Nat) : Int) = (c : Int) + (B : Int) by omega] at hc
              have hm2 : Aside (QV.mrg (ltOf cf) n B (c + 2 * B) (QV.symM (ltOf cf) (2 * B) c (c + B) (c + 2 * B) dr) = QV.mrg (ltOf cf) n B 0 dq) := by
                have h := hm.out
                rw [QV.mrg, dif_pos ⟨hl3, by omega⟩] at h
                exact h
              have hz1 : (QV.symM (ltOf cf) (2 * B) c (c + B) (c + 2 * B) dr).size = n := by rw [QV.size_symM, hdr]
              clear S5 hm
              generalize QV.symM (ltOf cf) (2 * B) c (c + B) (c + 2 * B) dr = D3 at hc hm2 hz1
              go_wp2_with (go_at_fn 99; refine hc.mono ?_; rintro e w2 ⟨rfl, hw2⟩)
              go_roundg (n - (c + 2 * B))
              case measure => omega
              case rel => exact ⟨c + 2 * B, D3, by first | rfl | (congr 1 <;> omega), by first | rfl | (congr 1 <;> omega), hl3, Nat.le_refl _, hz1, hw2, hm2⟩
            · have hz3 : ¬ ((c + 2 * B : Nat) : Int) ≤ (n : Int) := by omega
              by_cases hm1 : c + B < n
              · have hz4 : (c : Int) + (B : Int) < (n : Int) := by omega
                have hc := SYM.out (n - c) c (c + B) n dr wr hdr S5.out (by omega) (by omega) (by omega) (Nat.le_refl _)
                rw [show ((c + B : Nat) : Int) = (c : Int) + (B : Int) by omega] at hc
                have hz1 : (QV.symM (ltOf cf) (n - c) c (c + B) n dr).size = n := by rw [QV.size_symM, hdr]
                have hm2 : Aside (QV.mrgAll (ltOf cf) n (2 * B) (QV.symM (ltOf cf) (n - c) c (c + B) n dr) = QV.stableA (ltOf cf) d) := by
                  have h := hm.out
                  rw [QV.mrg, dif_neg (by omega), if_pos hm1] at h
                  rw [h]
                  exact hall2.out
                clear S5 hm hall2
                generalize QV.symM (ltOf cf) (n - c) c (c + B) n dr = D3 at hc hm2 hz1
                go_wp2_with (go_at_fn 99; refine hc.mono ?_; rintro e w2 ⟨rfl, hw2⟩)
                go_roundg (n - 2 * B)
                case measure => omega
                case rel => exact ⟨2 * B, D3, by first | rfl | (congr 1 <;> omega), by omega, by omega, Nat.le_refl _, hz1, hw2, hm2⟩
              · have hz4 : ¬ (c : Int) + (B : Int) < (n : Int) := by omega
                have hm2 : Aside (QV.mrgAll (ltOf cf) n (2 * B) dr = QV.stableA (ltOf cf) d) := by
                  have h := hm.out
                  rw [QV.mrg, dif_neg (by omega), if_neg hm1] at h
                  rw [h]
                  exact hall2.out
                clear hm hall2
                go_wp2_with fail
                go_roundg (n - 2 * B)
                case measure => omega
                case rel => exact ⟨2 * B, dr, by first | rfl | (congr 1 <;> omega), by omega, by omega, Nat.le_refl _, hdr, S5, hm2⟩
        · have hBz : ¬ (B : Int) < (n : Int) := by omega
          have hall2 : QV.stableA (ltOf cf) d = dq := by
            have h := hall.out
            rw [QV.mrgAll, dif_neg (by omega)] at h
            exact h.symm
          go_wp2
          go_end0
          refine ⟨rfl, ?_⟩
          first | exact S4.out | (rw [hall2]; exact S4.out)
end Go.Proofs

namespace Go.Proofs
open Go.Shelf Go.RowKit Go.Lib Go.Sort
variable {α : Type} [Inhabited α]
set_option maxHeartbeats 4000000 in
set_option maxRecDepth 1000000 in
theorem QV.sortStable_calls (k : Nat) (aE : ∀ w, (isAgg 50).run Tryz.prog w = .ok true w) (zE : ∀ w, (Go.sizeOf 50).run Tryz.prog w = .ok k w) (enc : α → List Value) (cf : α → α → Int) (g : Nat) (cb : Array Value) (blk off cap : Nat) (d : Array α) (w : World)
    (eg : ∀ args w, (callFunc g args).run Tryz.prog w = .ok (.enter g args) w) (hcmp : CmpLays Tryz.prog g cb enc k cf blk off d.size w) (R : RowK enc k w blk off d) (hO : SWO (ltOf cf)) (hsz : d.size < 2305843009213693952) :
    Calls Tryz.prog 21 #[.slice (some ⟨blk, off, none⟩) d.size cap, .func (.func g) #[] cb] w fun e w' => e = .returned (.tuple #[]) ∧ SWK enc k w blk off (QV.stableA (ltOf cf) d) w' := by
  have mixed : Tryz.prog.follows .mixedOrders = true := by kernel_rfl
  have t0 := Tryz.underlying0; have a0 := Tryz.isAgg0; have z0 := Tryz.sizeOf0; have v0 := Tryz.zeroValue0; have t3 := Tryz.underlying3; have a3 := Tryz.isAgg3; have z3 := Tryz.sizeOf3; have v3 := Tryz.zeroValue3; have t22 := Tryz.underlying24; have a22 := Tryz.isAgg24; have z22 := Tryz.sizeOf24; have v22 := Tryz.zeroValue24; have t25 := Tryz.underlying55; have a25 := Tryz.isAgg55; have z25 := Tryz.sizeOf55; have v25 := Tryz.zeroValue55
  have FG := Tryz.func21
  have FN : Tryz.f21.ntmps = 9 := rfl
  have E61 : ∀ args w, (callFunc 61 args).run Tryz.prog w = .ok (.enter 61 args) w := enters_of Tryz.func61 (by kernel_rfl) rfl
  have hc := QV.stable_calls k aE zE enc cf g cb blk off cap d w eg hcmp R (SWK.start R.hH) hO hsz
  clear hcmp R hO
  go_enter FG, FN
  go_wp2_with (go_at_fn 61; refine hc.mono ?_; rintro e w1 ⟨rfl, hw1⟩)
  go_end0
  exact ⟨rfl, hw1⟩
set_option maxHeartbeats 4000000 in
set_option maxRecDepth 1000000 in
theorem QV.insNil_calls (fv : Value) (w : World) : Calls Tryz.prog 98 #[.slice none 0 0, .int .i64 0, .int .i64 0, fv] w fun e w' => e = .returned (.tuple #[]) ∧ w' = w := by
  have mixed : Tryz.prog.follows .mixedOrders = true := by kernel_rfl
  have t0 := Tryz.underlying0; have a0 := Tryz.isAgg0; have z0 := Tryz.sizeOf0; have v0 := Tryz.zeroValue0; have t3 := Tryz.underlying3; have a3 := Tryz.isAgg3; have z3 := Tryz.sizeOf3; have v3 := Tryz.zeroValue3; have t22 := Tryz.underlying24; have a22 := Tryz.isAgg24; have z22 := Tryz.sizeOf24; have v22 := Tryz.zeroValue24
  have FG := Tryz.func98
  have FN : Tryz.f98.ntmps = 53 := rfl
  go_enter FG, FN
  go_wp2
  go_loopg [8] 0 (fun kx s8 wr => s8 = .int .i64 1 ∧ wr = w)
  case atStart => exact ⟨rfl, rfl⟩
  case round =>
    obtain ⟨rfl, rfl⟩ := hrel
    go_wp2
    go_end0
    exact ⟨rfl, rfl⟩
set_option maxHeartbeats 4000000 in
set_option maxRecDepth 1000000 in
theorem QV.stableNil_calls (fv : Value) (w : World) : Calls Tryz.prog 61 #[.slice none 0 0, .int .i64 0, fv] w fun e w' => e = .returned (.tuple #[]) ∧ w' = w := by
  have mixed : Tryz.prog.follows .mixedOrders = true := by kernel_rfl
  have t0 := Tryz.underlying0; have a0 := Tryz.isAgg0; have z0 := Tryz.sizeOf0; have v0 := Tryz.zeroValue0; have t3 := Tryz.underlying3; have a3 := Tryz.isAgg3; have z3 := Tryz.sizeOf3; have v3 := Tryz.zeroValue3; have t22 := Tryz.underlying24; have a22 := Tryz.isAgg24; have z22 := Tryz.sizeOf24; have v22 := Tryz.zeroValue24
  have FG := Tryz.func61
  have FN : Tryz.f61.ntmps = 63 := rfl
  have E98 : ∀ args w, (callFunc 98 args).run Tryz.prog w = .ok (.enter 98 args) w := enters_of Tryz.func98 (by kernel_rfl) rfl
  go_enter FG, FN
  go_wp2
  go_loopg [7, 8] 0 (fun kx s7 s8 wr => s7 = .int .i64 0 ∧ s8 = .int .i64 20 ∧ wr = w)
  case atStart => exact ⟨rfl, rfl, rfl⟩
  case round =>
    obtain ⟨rfl, rfl, rfl⟩ := hrel
    have hc := QV.insNil_calls fv wr
    go_wp2_with (go_at_fn 98; refine hc.mono ?_; rintro e w1 ⟨rfl, rfl⟩)
    go_loopg [6] 0 (fun kx s6 wq => s6 = .int .i64 20 ∧ wq = w1)
    case atStart => exact ⟨rfl, rfl⟩
    case round =>
      obtain ⟨rfl, rfl⟩ := hrel
      go_wp2
      go_end0
      exact ⟨rfl, rfl⟩
set_option maxHeartbeats 4000000 in
set_option maxRecDepth 1000000 in
theorem QV.sortStableNil_calls (fv : Value) (w : World) : Calls Tryz.prog 21 #[.slice none 0 0, fv] w fun e w' => e = .returned (.tuple #[]) ∧ w' = w := by
  have mixed : Tryz.prog.follows .mixedOrders = true := by kernel_rfl
  have t0 := Tryz.underlying0; have a0 := Tryz.isAgg0; have z0 := Tryz.sizeOf0; have v0 := Tryz.zeroValue0; have t3 := Tryz.underlying3; have a3 := Tryz.isAgg3; have z3 := Tryz.sizeOf3; have v3 := Tryz.zeroValue3; have t22 := Tryz.underlying24; have a22 := Tryz.isAgg24; have z22 := Tryz.sizeOf24; have v22 := Tryz.zeroValue24
  have FG := Tryz.func21
  have FN : Tryz.f21.ntmps = 9 := rfl
  have E61 : ∀ args w, (callFunc 61 args).run Tryz.prog w = .ok (.enter 61 args) w := enters_of Tryz.func61 (by kernel_rfl) rfl
  have hc := QV.stableNil_calls fv w
  go_enter FG, FN
  go_wp2_with (go_at_fn 61; refine hc.mono ?_; rintro e w1 ⟨rfl, rfl⟩)
  go_end0
  exact ⟨rfl, rfl⟩
end Go.Proofs

namespace Go.Proofs
open Go.Shelf Go.RowKit Go.Lib Go.Sort
def Tryz.lays106_ren : Go.Shelf.Ren := ⟨fun | 106 => 23 | 213 => 62 | 265 => 100 | n => n, fun | 9 => 9 | 3 => 3 | n => n, fun | n => n⟩
theorem Tryz.lays106 : Go.Proofs.Lays.n106 Tryz.prog Tryz.lays106_ren := {
  mixed := by kernel_rfl,
  f106 := Tryz.func23.trans (congrArg some (by kernel_rfl)),
  f213 := Tryz.func62.trans (congrArg some (by kernel_rfl)),
  f265 := Tryz.func100.trans (congrArg some (by kernel_rfl)),
  t3 := Tryz.underlying3,
  a3 := Tryz.isAgg3,
  z3 := Tryz.sizeOf3,
  v3 := Tryz.zeroValue3,
  t9 := Tryz.underlying9,
  a9 := Tryz.isAgg9,
  z9 := Tryz.sizeOf9,
  v9 := Tryz.zeroValue9 }
set_option maxHeartbeats 4000000 in
set_option maxRecDepth 1000000 in
theorem QV.cmpDef_calls (x0 x1 x2 x4 x5 x6 x7 x8 x9 x10 y0 y1 y2 y4 y5 y6 y7 y8 y9 y10 : Value) (ax ay : ByteArray) (hx0 : x0.oneCell' = true) (hx1 : x1.oneCell' = true) (hx2 : x2.oneCell' = true) (hx4 : x4.oneCell' = true) (hx5 : x5.oneCell' = true) (hx6 : x6.oneCell' = true) (hx7 : x7.oneCell' = true) (hx8 : x8.oneCell' = true) (hx9 : x9.oneCell' = true) (hx10 : x10.oneCell' = true) (hy0 : y0.oneCell' = true) (hy1 : y1.oneCell' = true) (hy2 : y2.oneCell' = true) (hy4 : y4.oneCell' = true) (hy5 : y5.oneCell' = true) (hy6 : y6.oneCell' = true) (hy7 : y7.oneCell' = true) (hy8 : y8.oneCell' = true) (hy9 : y9.oneCell' = true) (hy10 : y10.oneCell' = true) (w : World) :
    Calls Tryz.prog 22 #[.agg #[x0, x1, x2, .string ax, x4, x5, x6, x7, x8, x9, x10], .agg #[y0, y1, y2, .string ay, y4, y5, y6, y7, y8, y9, y10]] w fun e w' => e = .returned (.int .i64 (Lib.compareBytes ax.data.toList ay.data.toList)) ∧ ∃ q os', w' = grow (w.drewN q) os' := by
  have mixed : Tryz.prog.follows .mixedOrders = true := by kernel_rfl
  have t0 := Tryz.underlying0; have a0 := Tryz.isAgg0; have z0 := Tryz.sizeOf0; have v0 := Tryz.zeroValue0; have t3 := Tryz.underlying3; have a3 := Tryz.isAgg3; have z3 := Tryz.sizeOf3; have v3 := Tryz.zeroValue3; have t9 := Tryz.underlying9; have a9 := Tryz.isAgg9; have z9 := Tryz.sizeOf9; have v9 := Tryz.zeroValue9; have t50 := Tryz.underlying50; have a50 := Tryz.isAgg50; have z50 := Tryz.sizeOf50; have v50 := Tryz.zeroValue50
  have hcon := fun W' => Any.strings_Compare Tryz.lays106 ax ay W'
  change ∀ W', Calls Tryz.prog 23 _ _ _ at hcon
  have E23 : ∀ args w, (callFunc 23 args).run Tryz.prog w = .ok (.enter 23 args) w := enters_of Tryz.func23 (by kernel_rfl) rfl
  have FG := Tryz.func22
  have FN : Tryz.f22.ntmps = 10 := rfl
  generalize Lib.compareBytes ax.data.toList ay.data.toList = r at hcon ⊢
  go_enter FG, FN
  go_wp2_with (go_at_fn 23; refine (hcon _).mono ?_; rintro e w' ⟨rfl, rfl⟩)
  go_ret
  exact ⟨rfl, 0, _, by rw [alloc_eq_grow, alloc_eq_grow, grow_grow]; rfl⟩
end Go.Proofs

namespace Go.Proofs.QV
open Go Go.Sort Go.Lib
set_option maxRecDepth 100000
def ctSt : List CT := [.i .i64, .b, .s, .s, .sl 9, .sl 97, .sl 102, .sl 105, .sl 68, .b, .sl 108]
theorem nm_at {ty : Nat → Option TI} {w : World} {x : List DC} {v : List Value} {F : List Nat} (h : RdL ty w ctSt x v F) : v[3]? = some (.string ⟨(nmD 3 x).toArray⟩) := by
  unfold ctSt at h
  cases h with
  | cons _ _ _ _ _ _ _ _ _ h =>
  cases h with
  | cons _ _ _ _ _ _ _ _ _ h =>
  cases h with
  | cons _ _ _ _ _ _ _ _ _ h =>
  cases h with
  | cons _ _ _ _ _ _ _ _ h3 h =>
  cases h3 with
  | s l => rfl
theorem cmp_laid {ty : Nat → Option TI} {w : World} (blk size : Nat) : CmpLays Tryz.prog 22 #[] (El.v (ty := ty) (w := w) (cts := ctSt)) 11 (fun x y => compareBytes (nmD 3 x.d) (nmD 3 y.d)) blk 0 size w := by
  intro m os dk _ x y
  have hx := nm_at x.rd
  have hy := nm_at y.rd
  have lx := (RdL.length x.rd).1
  have ly := (RdL.length y.rd).1
  have ox := RdL.one x.rd
  have oy := RdL.one y.rd
  generalize x.v = u at *
  generalize y.v = t at *
  generalize sortWorldK (El.v (ty := ty) (w := w) (cts := ctSt)) 11 w blk 0 m dk os = W
  match u, lx with
  | [x0, x1, x2, x3, x4, x5, x6, x7, x8, x9, x10], _ =>
  match t, ly with
  | [y0, y1, y2, y3, y4, y5, y6, y7, y8, y9, y10], _ =>
  obtain rfl : x3 = _ := Option.some.inj hx
  obtain rfl : y3 = _ := Option.some.inj hy
  exact cmpDef_calls x0 x1 x2 x4 x5 x6 x7 x8 x9 x10 y0 y1 y2 y4 y5 y6 y7 y8 y9 y10 _ _ (ox _ (by simp)) (ox _ (by simp)) (ox _ (by simp)) (ox _ (by simp)) (ox _ (by simp)) (ox _ (by simp)) (ox _ (by simp)) (ox _ (by simp)) (ox _ (by simp)) (ox _ (by simp)) (oy _ (by simp)) (oy _ (by simp)) (oy _ (by simp)) (oy _ (by simp)) (oy _ (by simp)) (oy _ (by simp)) (oy _ (by simp)) (oy _ (by simp)) (oy _ (by simp)) (oy _ (by simp)) W
theorem stStb {G : Glob} {ty : Nat → Option TI} (hty : ∀ te, ty 50 = some te → te.cts = ctSt) : StOK Tryz.prog G ty 21 (qStb 50 22 3) :=
  stb_ok hty (fun w blk cap d hH hb hs => by
    simp only [LIM] at hs
    exact sortStable_calls 11 Tryz.isAgg50 Tryz.sizeOf50 El.v (fun x y => compareBytes (nmD 3 x.d) (nmD 3 y.d)) 22 #[] blk 0 cap d w (enters_of Tryz.func22 (by kernel_rfl) rfl) (cmp_laid blk d.size)
      ⟨fun x => (RdL.length x.rd).1, fun x => RdL.one x.rd, hH, hb⟩ (swoF fun x : El ty w ctSt => nmD 3 x.d) (by omega))
    (fun fv w => sortStableNil_calls fv w)
set_option linter.unusedSimpArgs false
def rowAct (T : Int → Option (List UInt8)) (rec : Nat → List (List DC) → Int → Option (List (List DC) × Int)) : MA → List DC × Int × Int → Option (List DC × Int × Int)
  | .txt off, (x, k, r) =>
    match T k with
    | some s => some (x.set off (.s s), k, r)
    | none => none
  | .bool off, (x, k, r) => some (x.set off (.b (k % 3 == 0)), k, r)
  | .int off, (x, k, r) => some (x.set off (.i k), k, r)
  | .sub off f, (x, k, r) =>
    match rec f (x.getD off d0).ll k with
    | some (l', k') => some (x.set off (.sl l'), k, k')
    | none => none
  | .inc, (x, k, r) => if k + 1 < 4611686018427387904 then some (x, k + 1, r) else none
  | .upd, (x, k, r) => if 0 ≤ r ∧ r < 4611686018427387904 then some (x, r, r) else none
def rowActs (T : Int → Option (List UInt8)) (rec : Nat → List (List DC) → Int → Option (List (List DC) × Int)) : List MA → List DC × Int × Int → Option (List DC × Int × Int)
  | [], p => some p
  | m :: ms, p =>
    match rowAct T rec m p with
    | some q => rowActs T rec ms q
    | none => none
section
variable {T : Int → Option (List UInt8)} {rec : Nat → List (List DC) → Int → Option (List (List DC) × Int)} {tab : Nat → Option (List MA)}
theorem getD_set_self {l : List (List DC)} {i : Nat} {x : List DC} (h : i < l.length) : (l.set i x).getD i [] = x := by
  rw [List.getD_eq_getElem?_getD, List.getElem?_set, if_pos rfl, if_pos h]
  rfl
theorem doAct_row {i : Nat} {m : MA} {l : List (List DC)} {x x' : List DC} {k k' r r' : Int} (hi : i < l.length) (h : rowAct T rec m (x, k, r) = some (x', k', r')) : doAct T rec i m ⟨l.set i x, k, r⟩ = some ⟨l.set i x', k', r'⟩ := by
  have hx : ∀ (off : Nat) (d : DC), xset (l.set i x) i off d = l.set i (x.set off d) := fun off d => by
    unfold xset
    rw [getD_set_self hi, List.set_set]
  cases m with
  | txt off =>
    simp only [rowAct] at h
    simp only [doAct]
    split at h
    · rename_i s hs
      simp only [Option.some.injEq, Prod.mk.injEq] at h
      obtain ⟨rfl, rfl, rfl⟩ := h
      try rw [hs]
      simp only [hx]
    · simp at h
  | bool off =>
    simp only [rowAct, Option.some.injEq, Prod.mk.injEq] at h
    obtain ⟨rfl, rfl, rfl⟩ := h
    simp only [doAct, hx]
  | int off =>
    simp only [rowAct, Option.some.injEq, Prod.mk.injEq] at h
    obtain ⟨rfl, rfl, rfl⟩ := h
    simp only [doAct, hx]
  | sub off f =>
    simp only [rowAct] at h
    simp only [doAct]
    rw [getD_set_self hi]
    split at h
    · rename_i l' k1 hs
      simp only [Option.some.injEq, Prod.mk.injEq] at h
      obtain ⟨rfl, rfl, rfl⟩ := h
      try rw [hs]
      simp only [hx]
    · simp at h
  | inc =>
    simp only [rowAct] at h
    simp only [doAct]
    split at h
    · rename_i hb
      simp only [Option.some.injEq, Prod.mk.injEq] at h
      obtain ⟨rfl, rfl, rfl⟩ := h
      rw [if_pos hb]
    · simp at h
  | upd =>
    simp only [rowAct] at h
    simp only [doAct]
    split at h
    · rename_i hb
      simp only [Option.some.injEq, Prod.mk.injEq] at h
      obtain ⟨rfl, rfl, rfl⟩ := h
      rw [if_pos hb]
    · simp at h
theorem doActs_row {i : Nat} {l : List (List DC)} (hi : i < l.length) : ∀ {ms : List MA} {x x' : List DC} {k k' r r' : Int}, rowActs T rec ms (x, k, r) = some (x', k', r') → doActs T rec i ms ⟨l.set i x, k, r⟩ = some ⟨l.set i x', k', r'⟩
  | [], x, x', k, k', r, r', h => by
    simp only [rowActs, Option.some.injEq, Prod.mk.injEq] at h
    obtain ⟨rfl, rfl, rfl⟩ := h
    rfl
  | m :: ms, x, x', k, k', r, r', h => by
    rw [rowActs] at h
    rw [doActs]
    split at h
    · rename_i q hq
      obtain ⟨x1, k1, r1⟩ := q
      rw [doAct_row hi hq]
      exact doActs_row hi h
    · simp at h
inductive Chain {α : Type} (R : α → Int → α → Int → Prop) : List α → Int → List α → Int → Prop
  | nil (k : Int) : Chain R [] k [] k
  | cons {x x' : α} {xs xs' : List α} {k k1 k' : Int} : R x k x' k1 → Chain R xs k1 xs' k' → Chain R (x :: xs) k (x' :: xs') k'
theorem Chain.len {α : Type} {R : α → Int → α → Int → Prop} {vs vs' : List α} {k k' : Int} (h : Chain R vs k vs' k') : vs'.length = vs.length := by
  induction h with
  | nil => rfl
  | cons _ _ ih => simp [ih]
theorem Chain.mono {α : Type} {R S : α → Int → α → Int → Prop} (hRS : ∀ x k x' k', R x k x' k' → S x k x' k') {vs vs' : List α} {k k' : Int} (h : Chain R vs k vs' k') : Chain S vs k vs' k' := by
  induction h with
  | nil k => exact .nil k
  | cons h1 _ ih => exact .cons (hRS _ _ _ _ h1) ih
def MarkRow {α : Type} (T : Int → Option (List UInt8)) (tab : Nat → Option (List MA)) (ms : List MA) (enc : α → List DC) (x : α) (k : Int) (x' : α) (k' : Int) : Prop :=
  ∃ n, ∀ m, n ≤ m → ∀ r, ∃ r', rowActs T (mkF T tab m) ms (enc x, k, r) = some (enc x', k', r')
theorem rows_chain {α : Type} {ms : List MA} {enc : α → List DC} {vs vs' : List α} {k k' : Int} (h : Chain (MarkRow T tab ms enc) vs k vs' k') : ∃ n, ∀ m, n ≤ m → ∀ (pre : List (List DC)) (r : Int), ∃ r',
    doRows T (mkF T tab m) ms vs.length pre.length ⟨pre ++ vs.map enc, k, r⟩ = some ⟨pre ++ vs'.map enc, k', r'⟩ := by
  induction h with
  | nil k => exact ⟨0, fun m _ pre r => ⟨r, rfl⟩⟩
  | cons h1 h2 ih =>
    rename_i x x' xs xs' k k1 k'
    obtain ⟨n1, h1⟩ := h1
    obtain ⟨n2, h2⟩ := ih
    refine ⟨max n1 n2, fun m hm pre r => ?_⟩
    obtain ⟨r1, e1⟩ := h1 m (by omega) r
    obtain ⟨r2, e2⟩ := h2 m (by omega) (pre ++ [enc x']) r1
    refine ⟨r2, ?_⟩
    have hi : pre.length < (pre ++ enc x :: xs.map enc).length := by simp
    have hset : ∀ y, (pre ++ enc x :: xs.map enc).set pre.length y = pre ++ y :: xs.map enc := fun y => by
      rw [List.set_append_right _ _ (Nat.le_refl _), Nat.sub_self]
      rfl
    have e3 := doActs_row (i := pre.length) hi e1
    rw [hset, hset] at e3
    rw [List.length_cons, List.map_cons, doRows, e3]
    rw [List.length_append] at e2
    simpa using e2
def Mk (T : Int → Option (List UInt8)) (tab : Nat → Option (List MA)) (f : Nat) (l : List (List DC)) (k : Int) (l' : List (List DC)) (k' : Int) : Prop := ∃ n, mkF T tab n f l k = some (l', k')
theorem mark_chain {α : Type} {ms : List MA} {enc : α → List DC} {vs vs' : List α} {k k' : Int} {f : Nat} (hf : tab f = some ms) (hl : vs.length < 4611686018427387904) (h0 : 0 ≤ k) (hk : k < 4611686018427387904) (h : Chain (MarkRow T tab ms enc) vs k vs' k') :
    Mk T tab f (vs.map enc) k (vs'.map enc) k' := by
  obtain ⟨n, hn⟩ := rows_chain h
  obtain ⟨r, e⟩ := hn n (Nat.le_refl _) [] 0
  refine ⟨n + 1, ?_⟩
  rw [mkF, hf]
  dsimp only
  unfold mkRun
  rw [if_pos ⟨by simpa using hl, h0, hk⟩, List.length_map]
  simp only [List.nil_append, List.length_nil] at e
  rw [e]
theorem chain_make {α : Type} {R : α → Int → α → Int → Prop} {enc : α → List DC} : ∀ (vs : List α), (∀ x ∈ vs, ∀ k : Int, 0 ≤ k → k + 30 * ((1 + wtL (enc x) : Nat) : Int) < 4611686018427387904 → ∃ x' k', R x k x' k' ∧ k ≤ k' ∧ k' ≤ k + 30 * ((1 + wtL (enc x) : Nat) : Int)) →
    ∀ k : Int, 0 ≤ k → k + 30 * ((DC.wt (.sl (vs.map enc)) : Nat) : Int) < 4611686018427387904 → ∃ vs' k', Chain R vs k vs' k' ∧ k ≤ k' ∧ k' ≤ k + 30 * ((DC.wt (.sl (vs.map enc)) : Nat) : Int)
  | [], _, k, h0, hk => ⟨[], k, .nil k, by omega, by omega⟩
  | x :: vs, hs, k, h0, hk => by
    have hw : DC.wt (.sl ((x :: vs).map enc)) = (1 + wtL (enc x)) + DC.wt (.sl (vs.map enc)) := by
      simp only [DC.wt, List.map_cons, List.length_cons, List.length_map, wtV]
      omega
    rw [hw] at hk ⊢
    obtain ⟨x', k1, e1, e2, e3⟩ := hs x (by simp) k h0 (by omega)
    obtain ⟨vs', k2, c1, c2, c3⟩ := chain_make vs (fun y hy => hs y (by simp [hy])) k1 (by omega) (by omega)
    exact ⟨x' :: vs', k2, .cons e1 c1, by omega, by omega⟩
theorem mark_all {α : Type} {ms : List MA} {enc : α → List DC} {Q : Int → α → Int → Prop} {f : Nat} (hf : tab f = some ms) (vs : List α)
    (hs : ∀ x ∈ vs, ∀ k : Int, 0 ≤ k → k + 30 * ((1 + wtL (enc x) : Nat) : Int) < 4611686018427387904 → ∃ x' k', (MarkRow T tab ms enc x k x' k' ∧ Q k x' k') ∧ k ≤ k' ∧ k' ≤ k + 30 * ((1 + wtL (enc x) : Nat) : Int))
    {k : Int} (h0 : 0 ≤ k) (hk : k + 30 * ((DC.wt (.sl (vs.map enc)) : Nat) : Int) < 4611686018427387904) :
    ∃ vs' k', Mk T tab f (vs.map enc) k (vs'.map enc) k' ∧ k ≤ k' ∧ k' ≤ k + 30 * ((DC.wt (.sl (vs.map enc)) : Nat) : Int) ∧ Chain (fun _ k x' k' => Q k x' k') vs k vs' k' := by
  obtain ⟨vs', k', c, b1, b2⟩ := chain_make (R := fun x k x' k' => MarkRow T tab ms enc x k x' k' ∧ Q k x' k') vs hs k h0 hk
  have hl : vs.length ≤ DC.wt (.sl (vs.map enc)) := by simp [DC.wt]
  exact ⟨vs', k', mark_chain hf (by omega) h0 (by omega) (c.mono fun _ _ _ _ h => h.1), b1, b2, c.mono fun _ _ _ _ h => h.2⟩
theorem held_loop {α : Type} {enc : α → List DC} {F : List DC → Out} {vs vs' : List α} {k k' : Int}
    (h : Chain (fun _ k x' k' => ∀ (l : List (List DC)) (i : Nat), i < l.length → l.length ≤ 9223372036854775807 → l.getD i [] = enc x' → F [.sl l, .i k, .i (i : Int)] = .norm [.sl l, .i k', .i ((i + 1 : Nat) : Int)]) vs k vs' k')
    (hend : ∀ (l : List (List DC)) (k : Int), F [.sl l, .i k, .i (l.length : Int)] = .ex 0 [.i k]) :
    ∀ (pre : List (List DC)), pre.length + vs'.length ≤ 9223372036854775807 → Loop F [.sl (pre ++ vs'.map enc), .i k, .i (pre.length : Int)] = .ex 0 [.i k'] := by
  induction h with
  | nil k => intro pre _; rw [List.map_nil, List.append_nil]; exact Loop_ex (hend pre k)
  | cons h1 h2 ih =>
    rename_i x x' xs xs' k k1 k'
    intro pre hp
    rw [Loop_norm (h1 (pre ++ (x' :: xs').map enc) pre.length (by simp) (by simpa using hp) (by rw [List.map_cons, List.getD_eq_getElem?_getD, List.getElem?_append_right (Nat.le_refl _), Nat.sub_self]; rfl))]
    have := ih (pre ++ [enc x']) (by simp only [List.length_append, List.length_cons, List.length_nil] at hp ⊢; omega)
    rw [List.length_append] at this
    simpa using this
theorem rowActs_txt {off : Nat} {ms : List MA} {x : List DC} {k r : Int} {s : List UInt8} {o : Option (List DC × Int × Int)} (h : T k = some s) (h2 : rowActs T rec ms (x.set off (.s s), k, r) = o) : rowActs T rec (.txt off :: ms) (x, k, r) = o := by
  simp only [rowActs, rowAct, h]
  exact h2
theorem rowActs_bool {off : Nat} {ms : List MA} {x : List DC} {k r : Int} {o : Option (List DC × Int × Int)} (h2 : rowActs T rec ms (x.set off (.b (k % 3 == 0)), k, r) = o) : rowActs T rec (.bool off :: ms) (x, k, r) = o := h2
theorem rowActs_int {off : Nat} {ms : List MA} {x : List DC} {k r : Int} {o : Option (List DC × Int × Int)} (h2 : rowActs T rec ms (x.set off (.i k), k, r) = o) : rowActs T rec (.int off :: ms) (x, k, r) = o := h2
theorem rowActs_inc {ms : List MA} {x : List DC} {k r : Int} {o : Option (List DC × Int × Int)} (h : k + 1 < 4611686018427387904) (h2 : rowActs T rec ms (x, k + 1, r) = o) : rowActs T rec (.inc :: ms) (x, k, r) = o := by
  simp only [rowActs, rowAct, if_pos h]
  exact h2
theorem rowActs_upd {ms : List MA} {x : List DC} {k r : Int} {o : Option (List DC × Int × Int)} (h : 0 ≤ r ∧ r < 4611686018427387904) (h2 : rowActs T rec ms (x, r, r) = o) : rowActs T rec (.upd :: ms) (x, k, r) = o := by
  simp only [rowActs, rowAct, if_pos h]
  exact h2
theorem rowActs_sub {off f : Nat} {ms : List MA} {x : List DC} {k r k' : Int} {l l' : List (List DC)} {o : Option (List DC × Int × Int)} (hl : (x.getD off d0).ll = l) (h : rec f l k = some (l', k')) (h2 : rowActs T rec ms (x.set off (.sl l'), k, k') = o) : rowActs T rec (.sub off f :: ms) (x, k, r) = o := by
  simp only [rowActs, rowAct, hl, h]
  exact h2
theorem Mk.at {f : Nat} {l l' : List (List DC)} {k k' : Int} (h : Mk T tab f l k l' k') : mkV T tab f [l] k = some ([l'], k') := mkV_put h.choose_spec
end
section
variable {P : Program} {T : Int → Option (List UInt8)} {tab : Nat → Option (List MA)} {mt : Nat → Option Nat} {tf : Nat} {ty : Nat → Option TI} {a : Act} {w : World} {o : Oper} {Q : Exit → Act → World → Prop}
theorem Rds.frame {w' : World} {vs : List Value} {ps : List (Nat × Nat)} {ls : List (List (List DC))} {Fs : List (List Nat)} (h : Rds ty w vs ps ls Fs) (hb : ∀ b ∈ Fs.flatten, w'.heap[b]? = w.heap[b]?) : Rds ty w' vs ps ls Fs := by
  induction h with
  | nil => exact .nil
  | cons off e v l F ps ls Fs hv hr _ ih =>
    exact .cons _ _ _ _ _ _ _ _ hv (hr.frame fun b h => hb b (by simp [h])) (ih fun b h => hb b (by rw [List.flatten_cons]; exact List.mem_append_right _ h))
structure BS (ty : Nat → Option TI) (b m : Nat) (ps : List (Nat × Nat)) (vs : List Value) (Fs : List (List Nat)) (w0 : World) (ls : List (List (List DC))) (k : Int) (a : Act) (w : World) : Prop where
  sz : a.tmps.size = m
  s1 : a.eval (.tmp 1) = .int .i64 k
  sb : ∃ blk t, a.eval (.tmp b) = .pointer (some ⟨blk, 0, none⟩) ∧ w.heap[blk]? = some (.cells vs.toArray t (0, 0)) ∧ blk ∉ Fs.flatten
  rd : Rds ty w vs ps ls Fs
  own : Own w Fs.flatten
  wr : Wrote w0 w Fs.flatten
  df : a.defers = []
end
abbrev ou : KC := .one .u
abbrev ob : KC := .one .b
abbrev os : KC := .one .s
abbrev oi : KC := .one (.i .i64)
abbrev ol (e : Nat) : KC := .one (.sl e)
def uu (n : Nat) (l : List KC) : List KC := List.replicate n (.one .u) ++ l
def vv (n : Nat) (l : List KO) : List KO := List.replicate n .u ++ l
noncomputable def tyL : List (Nat × TI) := [(3, ⟨.int .i64, [.i .i64], 8, [], false⟩),
  (4, ⟨.bool, [.b], 1, [], false⟩),
  (5, ⟨.int .u8, [.i .u8], 1, [], false⟩),
  (9, ⟨.str, [.s], 16, [], false⟩),
  (22, ⟨.slice 44, [.sl 44], 24, [], false⟩),
  (24, ⟨.slice 50, [.sl 50], 24, [], false⟩),
  (30, ⟨.slice 68, [.sl 68], 24, [], false⟩),
  (37, ⟨.slice 9, [.sl 9], 24, [], false⟩),
  (38, ⟨.slice 118, [.sl 118], 24, [], false⟩),
  (39, ⟨.slice 124, [.sl 124], 24, [], false⟩),
  (40, ⟨.slice 127, [.sl 127], 24, [], false⟩),
  (41, ⟨.slice 129, [.sl 129], 24, [], false⟩),
  (42, ⟨.slice 133, [.sl 133], 24, [], false⟩),
  (44, ⟨.struct, [.i .i64, .b, .s, .s, .sl 9, .sl 118, .sl 124, .sl 127, .sl 129, .b, .sl 133], 200, [(0, 1, false), (1, 1, false), (2, 1, false), (3, 1, false), (4, 1, false), (5, 1, false), (6, 1, false), (7, 1, false), (8, 1, false), (9, 1, false), (10, 1, false)], false⟩),
  (45, ⟨.slice 97, [.sl 97], 24, [], false⟩),
  (46, ⟨.slice 102, [.sl 102], 24, [], false⟩),
  (47, ⟨.slice 105, [.sl 105], 24, [], false⟩),
  (48, ⟨.slice 108, [.sl 108], 24, [], false⟩),
  (50, ⟨.struct, [.i .i64, .b, .s, .s, .sl 9, .sl 97, .sl 102, .sl 105, .sl 68, .b, .sl 108], 200, [(0, 1, false), (1, 1, false), (2, 1, false), (3, 1, false), (4, 1, false), (5, 1, false), (6, 1, false), (7, 1, false), (8, 1, false), (9, 1, false), (10, 1, false)], false⟩),
  (68, ⟨.struct, [.i .i64, .s], 24, [(0, 1, false), (1, 1, false)], false⟩),
  (93, ⟨.slice 5, [.sl 5], 24, [], false⟩),
  (95, ⟨.struct, [.s, .s], 32, [(0, 1, false), (1, 1, false)], false⟩),
  (97, ⟨.struct, [.s, .s, .sl 102, .s, .s, .sl 108], 112, [(0, 1, false), (1, 1, false), (2, 1, false), (3, 2, true), (5, 1, false)], false⟩),
  (98, ⟨.slice 100, [.sl 100], 24, [], false⟩),
  (100, ⟨.struct, [.i .i64, .s, .sl 100, .sl 9], 72, [(0, 1, false), (1, 1, false), (2, 1, false), (3, 1, false)], false⟩),
  (102, ⟨.struct, [.s, .s, .s, .s, .b, .i .i64, .s, .sl 100, .sl 9, .sl 108], 168, [(0, 1, false), (1, 1, false), (2, 2, true), (4, 1, false), (5, 4, true), (9, 1, false)], false⟩),
  (105, ⟨.struct, [.s, .s, .sl 108], 56, [(0, 1, false), (1, 1, false), (2, 1, false)], false⟩),
  (106, ⟨.slice 149, [.sl 149], 24, [], false⟩),
  (108, ⟨.struct, [.s, .sl 149], 40, [(0, 1, false), (1, 1, false)], false⟩),
  (116, ⟨.struct, [.s, .s], 32, [(0, 1, false), (1, 1, false)], false⟩),
  (118, ⟨.struct, [.s, .s, .sl 124, .s, .s, .sl 133], 112, [(0, 1, false), (1, 1, false), (2, 1, false), (3, 2, true), (5, 1, false)], false⟩),
  (120, ⟨.slice 122, [.sl 122], 24, [], false⟩),
  (122, ⟨.struct, [.i .i64, .s, .sl 122, .sl 9], 72, [(0, 1, false), (1, 1, false), (2, 1, false), (3, 1, false)], false⟩),
  (124, ⟨.struct, [.s, .s, .s, .s, .b, .i .i64, .s, .sl 122, .sl 9, .sl 133], 168, [(0, 1, false), (1, 1, false), (2, 2, true), (4, 1, false), (5, 4, true), (9, 1, false)], false⟩),
  (127, ⟨.struct, [.s, .s, .sl 133], 56, [(0, 1, false), (1, 1, false), (2, 1, false)], false⟩),
  (129, ⟨.struct, [.i .i64, .s], 24, [(0, 1, false), (1, 1, false)], false⟩),
  (131, ⟨.slice 168, [.sl 168], 24, [], false⟩),
  (133, ⟨.struct, [.s, .sl 168], 40, [(0, 1, false), (1, 1, false)], false⟩),
  (149, ⟨.struct, [.s, .i .i64, .s, .sl 100, .sl 9], 88, [(0, 1, false), (1, 4, true)], false⟩),
  (168, ⟨.struct, [.s, .i .i64, .s, .sl 122, .sl 9], 88, [(0, 1, false), (1, 4, true)], false⟩)]
theorem tys : tyB Tryz.prog tyL = true := by kernel_rfl
noncomputable def fi25 : FI := mkFI Tryz.f25 1 [.ct (.i .i64)] [(false, [.ct .s])] (fun _ => (.s .n (.s .n (.s .n (.s (.b (.b (.s .n (.b (.s (.r [0, 0, 0, 0, 0, 0, 0, 0, 0] none) .n) ⟨oi :: ou :: ou :: os :: uu 16 [], .u :: []⟩)) ⟨oi :: ou :: ou :: os :: uu 16 [], .u :: []⟩) ⟨uu 3 (os :: uu 16 []), .u :: []⟩) .n)))))
noncomputable def E_laws_markTextL1 : List DC → Out := fun v1 =>
    if (decide ((v1.getD 0 d0).ii > (0 : Int))) = true then
      Out.andThenB (if (10 : Int) = 0 then
          .fail
        else
          if (rowBytes [[DC.i (IntKind.u8.wrap (IntKind.i64.wrap ((48 : Int) + (((v1.getD 0 d0).ii).tmod (10 : Int)))))]]).length + ((v1.getD 1 d0).ss).length < LIM then
            if (10 : Int) = 0 then
              .fail
            else
              .norm [.i (IntKind.i64.wrap (((v1.getD 0 d0).ii).tdiv (10 : Int))), .s ((rowBytes [[DC.i (IntKind.u8.wrap (IntKind.i64.wrap ((48 : Int) + (((v1.getD 0 d0).ii).tmod (10 : Int)))))]]) ++ ((v1.getD 1 d0).ss))]
          else
            .fail) 1 fun v2 =>
      .norm [.i ((v2.getD 0 d0).ii), .s ((v2.getD 1 d0).ss)]
    else
      .ex 0 [.s ((v1.getD 1 d0).ss)]
noncomputable def E_laws_markText (a : List DC) : Out :=
    if (decide ((a.getD 0 d0).ii ≤ (0 : Int))) = true then
      .ret [.s ([109, 48] : List UInt8)]
    else
      Out.andThenB (Loop E_laws_markTextL1 [.i ((a.getD 0 d0).ii), .s ([] : List UInt8)]) 0 fun v3 =>
      if ([109] : List UInt8).length + ((v3.getD 0 d0).ss).length < LIM then
        .ret [.s (([109] : List UInt8) ++ ((v3.getD 0 d0).ss))]
      else
        .fail
noncomputable def cfg0 : Cfg := ⟨fun t => look t tyL, fun f => look f [(25, fi25)]⟩
theorem fns0 : ∀ x ∈ [(25, fi25)], FnOk Tryz.prog Glob.none cfg0.ty x.1 x.2 := all_cons (mkFI_ok Tryz.func25 (by kernel_rfl)) all_nil
theorem eq0 (a : List DC) : Run cfg0 25 ⟨[.one (.i .i64)], []⟩ a = E_laws_markText a := (Run_eq cfg0 25 _ a).trans (by kernel_rfl)
theorem mt_step (k : Int) (o : List UInt8) (h0 : 0 < k) (h1 : k < 4611686018427387904) (ho : o.length ≤ 100) : ∃ c, E_laws_markTextL1 [.i k, .s o] = .norm [.i (k / 10), .s (c :: o)] := by
  have hw : IntKind.i64.wrap (k.tdiv 10) = k / 10 := by
    rw [Int.tdiv_eq_ediv_of_nonneg (by omega)]
    exact wrap64 (by omega) (by omega)
  have hl : 1 + o.length < LIM := by unfold LIM; omega
  refine ⟨UInt8.ofNat (IntKind.u8.wrap (IntKind.i64.wrap (48 + k.tmod 10))).toNat, ?_⟩
  simp only [E_laws_markTextL1, List.getD_cons_zero, List.getD_cons_succ, DC.ii_i, DC.ss_s, hw]
  simp [h0, hl, rowBytes, Out.andThenB]
  try rfl
theorem mt_loop : ∀ (m : Nat) (k : Int) (o : List UInt8), 0 ≤ k → k < 4611686018427387904 → k < 10 ^ m → o.length + m ≤ 100 → ∃ s : List UInt8, s.length ≤ 100 ∧ Loop E_laws_markTextL1 [.i k, .s o] = .ex 0 [.s s]
  | 0, k, o, h0, _, h1, ho => by
    have : k = 0 := by simp at h1; omega
    subst this
    exact ⟨o, by omega, Loop_ex (by simp [E_laws_markTextL1])⟩
  | m + 1, k, o, h0, hb, h1, ho => by
    by_cases hk : 0 < k
    · obtain ⟨c, hc⟩ := mt_step k o hk hb (by omega)
      rw [Loop_norm hc]
      refine mt_loop m (k / 10) (c :: o) (by omega) (by omega) ?_ (by simp; omega)
      rw [Int.pow_succ] at h1
      omega
    · have : k = 0 := by omega
      subst this
      exact ⟨o, by omega, Loop_ex (by simp [E_laws_markTextL1])⟩
theorem mt_ok (k : Int) (h0 : 0 ≤ k) (h1 : k < 4611686018427387904) : ∃ s, E_laws_markText [.i k] = .ret [.s s] := by
  by_cases hk : k ≤ 0
  · exact ⟨[109, 48], by simp [E_laws_markText, hk]⟩
  · obtain ⟨s, hs, h⟩ := mt_loop 19 k [] h0 h1 (by have : (10 : Int) ^ 19 = 10000000000000000000 := by decide
                                                   omega) (by simp)
    have hl : 1 + s.length < LIM := by unfold LIM; omega
    refine ⟨109 :: s, ?_⟩
    simp only [E_laws_markText, List.getD_cons_zero, List.getD_cons_succ, DC.ii_i, DC.ss_s, h, Out.andThenB]
    simp [hk, hl, Nat.add_comm]
    try (unfold LIM; omega)
noncomputable def mtx (k : Int) : List UInt8 := match E_laws_markText [.i k] with | .ret [.s s] => s | _ => []
theorem mtx_eq {k : Int} (h0 : 0 ≤ k) (h1 : k < 4611686018427387904) : E_laws_markText [.i k] = .ret [.s (mtx k)] := by
  obtain ⟨s, h⟩ := mt_ok k h0 h1
  unfold mtx
  rw [h]
noncomputable def mT : Int → Option (List UInt8) := fun k => some (mtx k)
def ms10 : List MA := [.int 0, .inc, .bool 1, .inc, .txt 2, .inc, .txt 3, .inc, .sub 4 26, .upd, .sub 5 27, .upd, .sub 6 28, .upd, .sub 7 29, .upd, .sub 8 30, .upd, .bool 9, .inc, .sub 10 31, .upd]
def ms26 : List MA := [.txt 0, .inc]
def ms27 : List MA := [.txt 0, .inc, .txt 1, .inc, .sub 2 28, .upd, .txt 3, .inc, .txt 4, .inc, .sub 5 31, .upd]
def ms28 : List MA := [.txt 0, .inc, .txt 1, .inc, .txt 2, .inc, .txt 3, .inc, .bool 4, .inc, .int 5, .inc, .txt 6, .inc, .sub 7 68, .upd, .sub 8 26, .upd, .sub 9 31, .upd]
def ms29 : List MA := [.txt 0, .inc, .txt 1, .inc, .sub 2 31, .upd]
def ms30 : List MA := [.int 0, .inc, .txt 1, .inc]
def ms31 : List MA := [.txt 0, .inc, .sub 1 69, .upd]
def ms68 : List MA := [.int 0, .inc, .txt 1, .inc, .sub 2 68, .upd, .sub 3 26, .upd]
def ms69 : List MA := [.txt 0, .inc, .int 1, .inc, .txt 2, .inc, .sub 3 68, .upd, .sub 4 26, .upd]
noncomputable def ti9 : TI := ⟨.str, [.s], 16, [], false⟩
noncomputable def ti50 : TI := ⟨.struct, [.i .i64, .b, .s, .s, .sl 9, .sl 97, .sl 102, .sl 105, .sl 68, .b, .sl 108], 200, [(0, 1, false), (1, 1, false), (2, 1, false), (3, 1, false), (4, 1, false), (5, 1, false), (6, 1, false), (7, 1, false), (8, 1, false), (9, 1, false), (10, 1, false)], false⟩
noncomputable def ti68 : TI := ⟨.struct, [.i .i64, .s], 24, [(0, 1, false), (1, 1, false)], false⟩
noncomputable def ti97 : TI := ⟨.struct, [.s, .s, .sl 102, .s, .s, .sl 108], 112, [(0, 1, false), (1, 1, false), (2, 1, false), (3, 2, true), (5, 1, false)], false⟩
noncomputable def ti100 : TI := ⟨.struct, [.i .i64, .s, .sl 100, .sl 9], 72, [(0, 1, false), (1, 1, false), (2, 1, false), (3, 1, false)], false⟩
noncomputable def ti102 : TI := ⟨.struct, [.s, .s, .s, .s, .b, .i .i64, .s, .sl 100, .sl 9, .sl 108], 168, [(0, 1, false), (1, 1, false), (2, 2, true), (4, 1, false), (5, 4, true), (9, 1, false)], false⟩
noncomputable def ti105 : TI := ⟨.struct, [.s, .s, .sl 108], 56, [(0, 1, false), (1, 1, false), (2, 1, false)], false⟩
noncomputable def ti108 : TI := ⟨.struct, [.s, .sl 149], 40, [(0, 1, false), (1, 1, false)], false⟩
noncomputable def ti149 : TI := ⟨.struct, [.s, .i .i64, .s, .sl 100, .sl 9], 88, [(0, 1, false), (1, 4, true)], false⟩
def mTab : Nat → Option (List MA) := fun f => look f [(10, ms10), (26, ms26), (27, ms27), (28, ms28), (29, ms29), (30, ms30), (31, ms31), (68, ms68), (69, ms69)]
def mMt : Nat → Option Nat := fun f => look f [(10, 50), (26, 9), (27, 97), (28, 102), (29, 105), (30, 68), (31, 108), (68, 100), (69, 149)]
theorem mtabok : TabOk Tryz.prog (fun t => look t tyL) mT 25 mMt mTab where
  tyo := (tyB_ok tys).1
  fd := by
    rintro f (rfl | ⟨e, he⟩)
    · exact ⟨_, Tryz.func25, by kernel_rfl, rfl⟩
    have := look_mem he
    simp only [List.mem_cons, Prod.mk.injEq, List.not_mem_nil, or_false] at this
    rcases this with ⟨rfl, rfl⟩ | ⟨rfl, rfl⟩ | ⟨rfl, rfl⟩ | ⟨rfl, rfl⟩ | ⟨rfl, rfl⟩ | ⟨rfl, rfl⟩ | ⟨rfl, rfl⟩ | ⟨rfl, rfl⟩ | ⟨rfl, rfl⟩
    · exact ⟨_, Tryz.func10, by kernel_rfl, rfl⟩
    · exact ⟨_, Tryz.func26, by kernel_rfl, rfl⟩
    · exact ⟨_, Tryz.func27, by kernel_rfl, rfl⟩
    · exact ⟨_, Tryz.func28, by kernel_rfl, rfl⟩
    · exact ⟨_, Tryz.func29, by kernel_rfl, rfl⟩
    · exact ⟨_, Tryz.func30, by kernel_rfl, rfl⟩
    · exact ⟨_, Tryz.func31, by kernel_rfl, rfl⟩
    · exact ⟨_, Tryz.func68, by kernel_rfl, rfl⟩
    · exact ⟨_, Tryz.func69, by kernel_rfl, rfl⟩
  tfc := by
    intro k s w h0 h1 hs
    obtain rfl : mtx k = s := Option.some.inj hs
    exact int_calls (cfg := cfg0) (G := Glob.none) (tyB_ok tys).1 (by kernel_rfl) (fn_ok fns0) (f := 25) (fi := fi25) (by kernel_rfl) ⟨trivial, fun _ h => h.elim⟩ rfl rfl (Run.evt ((eq0 _).trans (mtx_eq h0 h1)))
  tfs := fun k _ _ => ⟨_, rfl⟩
  sh := by
    intro f e he
    have := look_mem he
    simp only [List.mem_cons, Prod.mk.injEq, List.not_mem_nil, or_false] at this
    rcases this with ⟨rfl, rfl⟩ | ⟨rfl, rfl⟩ | ⟨rfl, rfl⟩ | ⟨rfl, rfl⟩ | ⟨rfl, rfl⟩ | ⟨rfl, rfl⟩ | ⟨rfl, rfl⟩ | ⟨rfl, rfl⟩ | ⟨rfl, rfl⟩
    · exact ⟨ti50, Tryz.f10, ms10, by kernel_rfl, Tryz.func10, by kernel_rfl, by kernel_rfl⟩
    · exact ⟨ti9, Tryz.f26, ms26, by kernel_rfl, Tryz.func26, by kernel_rfl, by kernel_rfl⟩
    · exact ⟨ti97, Tryz.f27, ms27, by kernel_rfl, Tryz.func27, by kernel_rfl, by kernel_rfl⟩
    · exact ⟨ti102, Tryz.f28, ms28, by kernel_rfl, Tryz.func28, by kernel_rfl, by kernel_rfl⟩
    · exact ⟨ti105, Tryz.f29, ms29, by kernel_rfl, Tryz.func29, by kernel_rfl, by kernel_rfl⟩
    · exact ⟨ti68, Tryz.f30, ms30, by kernel_rfl, Tryz.func30, by kernel_rfl, by kernel_rfl⟩
    · exact ⟨ti108, Tryz.f31, ms31, by kernel_rfl, Tryz.func31, by kernel_rfl, by kernel_rfl⟩
    · exact ⟨ti100, Tryz.f68, ms68, by kernel_rfl, Tryz.func68, by kernel_rfl, by kernel_rfl⟩
    · exact ⟨ti149, Tryz.f69, ms69, by kernel_rfl, Tryz.func69, by kernel_rfl, by kernel_rfl⟩
noncomputable def h_slices_Clone_string : Hint := ⟨ol 9 :: [], []⟩
noncomputable def h_slices_Clone_impl_Root : Hint := ⟨ol 68 :: [], []⟩
noncomputable def fi3 : FI := mkFI Tryz.f3 9 [.ct (.sl 44)] [(false, [.ct .b])] (fun _ => (.s .n (.s .n (.s .n (.s .n (.s (.r [0, 0, 1, 0] none) (.s (.r [0, 2, 0] none) (.s (.r [0, 3, 0] none) (.s .n (.s (.s (.r [0, 0, 4, 0, 0] none) .n) (.s .n (.s .n (.s (.s (.r [] (some ⟨ol 44 :: uu 3 (.one (.own 50 5) :: ou :: .one (.own 1050 6) :: uu 35 (ob :: uu 26 [])), vv 9 []⟩)) .n) (.s .n (.s .n (.s .n (.s .n (.s .n (.s .n (.s (.r [0, 7, 8, 0] none) .n))))))))))))))))))))
noncomputable def fi5 : FI := mkFI Tryz.f5 0 [.ct (.sl 44), .ct (.i .i64)] [(false, [.ct (.i .i64)])] (fun _ => (.s .n (.s .n (.s .n (.s (.s .n (.b (.b (.s .n (.s (.b .n ⟨ol 44 :: oi :: uu 3 (oi :: uu 21 []), []⟩) .n)) ⟨ol 44 :: oi :: uu 3 (oi :: uu 21 []), []⟩) ⟨ou :: oi :: uu 25 [], []⟩)) .n)))))
noncomputable def fi7 : FI := mkFI Tryz.f7 11 [.ct (.sl 44)] [(false, [.new 1050])] (fun _ => (.s .n (.s (.r [0, 0, 1, 0] none) (.s (.s .n (.b (.b (.s .n (.s (.b (.r [0, 0, 0, 0, 0, 0, 3, 0, 0] none) ⟨ol 44 :: ou :: ou :: .one (.own 1050 9) :: oi :: uu 18 [], vv 11 []⟩) .n)) ⟨ol 44 :: ou :: ou :: .one (.own 1050 2) :: oi :: uu 18 [], vv 11 []⟩) ⟨uu 3 (.one (.own 1050 10) :: uu 19 []), vv 11 []⟩)) .n))))
noncomputable def fi6 : FI := mkFI Tryz.f6 35 [.ct (.sl 50)] [(false, [.new 50])] (fun _ => (.s .n (.s (.s .n (.c (.s (.r [0, 0] none) (.s (.s .n (.b (.b (.s .n (.s (.b (.r [0, 0, 0, 0, 0, 2, 8, 9, 0] none) ⟨ol 50 :: ou :: ou :: .one (.own 50 10) :: oi :: uu 89 [], vv 35 []⟩) .n)) ⟨ol 50 :: ou :: ou :: .one (.own 50 1) :: oi :: uu 89 [], vv 35 []⟩) ⟨uu 3 (.one (.own 50 11) :: uu 90 []), vv 35 []⟩)) .n)) .n none)) (.s (.r [0, 0, 0, 0, 0, 12, 0] none) (.s (.r [0, 0, 0, 0, 0, 13, 0] none) (.s (.r [14, 0] none) (.s .n (.s .n (.s (.b (.b (.s (.s (.r [] (some ⟨uu 5 (.one (.own 50 18) :: .one (.own 50 19) :: .one (.own 50 20) :: oi :: oi :: uu 41 (ob :: uu 42 [])), vv 35 []⟩)) .n) (.b (.s (.r [] (some ⟨uu 5 (.one (.own 50 21) :: .one (.own 50 22) :: .one (.own 50 23) :: oi :: oi :: uu 64 (ob :: uu 19 [])), vv 35 []⟩)) (.c (.s (.r [0, 0, 0, 0, 0, 24, 25, 0] none) .n) (.s (.r [0, 0, 0, 0, 0, 26, 27, 0] none) .n) (some ⟨uu 5 (.one (.own 50 28) :: .one (.own 50 29) :: .one (.own 50 30) :: oi :: oi :: uu 84 []), vv 35 []⟩))) ⟨uu 5 (.one (.own 50 31) :: .one (.own 50 32) :: .one (.own 50 33) :: oi :: oi :: uu 84 []), vv 35 []⟩)) ⟨uu 5 (.one (.own 50 15) :: .one (.own 50 16) :: .one (.own 50 17) :: oi :: oi :: uu 84 []), vv 35 []⟩) ⟨uu 7 (.one (.own 50 34) :: uu 86 []), vv 35 []⟩) .n)))))))))
noncomputable def fi8 : FI := mkFI Tryz.f8 1 [.ct (.sl 50)] [(false, [.new 1050])] (fun _ => (.s .n (.s (.r [0, 0, 0] none) .n)))
noncomputable def fi9 : FI := mkFI Tryz.f9 0 [.ct (.sl 50), .ct (.sl 50)] [(false, [.ct .b])] (fun _ => (.s .n (.s .n (.s (.s .n (.b (.b (.s .n (.s (.b .n ⟨ol 50 :: ol 50 :: uu 3 (oi :: uu 21 []), []⟩) .n)) ⟨ol 50 :: ol 50 :: uu 3 (oi :: uu 21 []), []⟩) ⟨uu 27 [], []⟩)) .n))))
noncomputable def fi11 : FI := mkFI Tryz.f11 0 [.ct (.sl 50), .ct (.i .i64)] [(false, [.ct (.i .i64)])] (fun _ => (.s .n (.s (.s .n (.b (.b (.s .n (.s (.b .n ⟨ol 50 :: oi :: uu 3 (oi :: uu 112 []), []⟩) .n)) ⟨ol 50 :: oi :: uu 3 (oi :: uu 112 []), []⟩) ⟨ou :: oi :: uu 116 [], []⟩)) .n)))
noncomputable def fi17 : FI := mkFI Tryz.f17 1 [.ag [.i .i64, .b, .s, .s, .sl 9, .sl 118, .sl 124, .sl 127, .sl 129, .b, .sl 133], .ct (.i .i64)] [(false, [.ct (.i .i64)])] (fun _ => (.s (.r [0, 0] none) .n))
noncomputable def fi19 : FI := mkFI Tryz.f19 9 [.ag [.i .i64, .b, .s, .s, .sl 9, .sl 118, .sl 124, .sl 127, .sl 129, .b, .sl 133]] [(true, [.ct (.i .i64), .ct .b, .ct .s, .ct .s, .new 9, .new 1097, .new 1102, .new 1105, .new 68, .ct .b, .new 1108])] (fun _ => (.s (.r [0, 1] none) (.s (.r [2] none) (.s .n (.s .n (.s .n (.s .n (.s (.r [0, 0, 3, 0, 0] none) (.s (.r [0, 0, 4, 0, 0] none) (.s (.r [0, 0, 5, 0, 0] none) (.s (.r [0, 0, 6, 0, 0] none) (.s (.r [0, 0, 7, 0, 0] none) (.s .n (.s (.r [0, 0, 8, 0, 0] none) .n))))))))))))))
noncomputable def fi18 : FI := mkFI Tryz.f18 11 [.ag [.i .i64, .b, .s, .s, .sl 9, .sl 97, .sl 102, .sl 105, .sl 68, .b, .sl 108]] [(true, [.ct (.i .i64), .ct .b, .ct .s, .ct .s, .new 9, .new 1097, .new 1102, .new 1105, .new 68, .ct .b, .new 1108])] (fun _ => (.s (.r [0, 1] none) (.s (.r [2, 0, 0, 3, 0, 0] none) (.s (.r [0, 0, 4, 0, 0] none) (.s (.r [0, 0, 5, 0, 0] none) (.s (.r [0, 0, 6, 0, 0] none) (.s (.r [8, 0, 0, 9, 0, 0] none) (.s (.r [0, 0, 10, 0, 0] none) .n))))))))
noncomputable def fi20 : FI := mkFI Tryz.f20 12 [.ct (.sl 50)] [(false, [.new 1050])] (fun _ => (.s .n (.s .n (.s (.s .n (.b (.b (.s .n (.s .n (.s (.b (.s (.r [0, 0, 0, 0] none) (.r [0, 0, 1, 7, 8, 0] none)) ⟨uu 3 (.one (.own 1050 9) :: ou :: ou :: ol 50 :: oi :: oi :: uu 10 []), vv 12 []⟩) .n))) ⟨uu 3 (.one (.own 1050 10) :: ou :: ou :: ol 50 :: oi :: oi :: uu 10 []), vv 12 []⟩) ⟨uu 3 (.one (.own 1050 11) :: uu 15 []), vv 12 []⟩)) .n))))
noncomputable def fi24 : FI := mkFI Tryz.f24 2 [.ag [.i .i64, .b, .s, .s, .sl 9, .sl 97, .sl 102, .sl 105, .sl 68, .b, .sl 108], .ag [.i .i64, .b, .s, .s, .sl 9, .sl 97, .sl 102, .sl 105, .sl 68, .b, .sl 108]] [(false, [.ct .b])] (fun _ => (.s (.r [0, 1, 0] none) .n))
noncomputable def fi32 : FI := mkFI Tryz.f32 0 [.ct (.sl 9), .ct (.i .i64)] [(false, [.ct (.i .i64)])] (fun _ => (.s .n (.s (.s .n (.b (.b (.s .n (.s (.b .n ⟨ol 9 :: oi :: uu 3 (oi :: uu 16 []), []⟩) .n)) ⟨ol 9 :: oi :: uu 3 (oi :: uu 16 []), []⟩) ⟨ou :: oi :: uu 20 [], []⟩)) .n)))
noncomputable def fi33 : FI := mkFI Tryz.f33 0 [.ct (.sl 97), .ct (.i .i64)] [(false, [.ct (.i .i64)])] (fun _ => (.s .n (.s (.s .n (.b (.b (.s .n (.s (.b .n ⟨ol 97 :: oi :: uu 3 (oi :: uu 67 []), []⟩) .n)) ⟨ol 97 :: oi :: uu 3 (oi :: uu 67 []), []⟩) ⟨ou :: oi :: uu 71 [], []⟩)) .n)))
noncomputable def fi34 : FI := mkFI Tryz.f34 0 [.ct (.sl 102), .ct (.i .i64)] [(false, [.ct (.i .i64)])] (fun _ => (.s .n (.s (.s .n (.b (.b (.s .n (.s (.b .n ⟨ol 102 :: oi :: uu 3 (oi :: uu 110 []), []⟩) .n)) ⟨ol 102 :: oi :: uu 3 (oi :: uu 110 []), []⟩) ⟨ou :: oi :: uu 114 [], []⟩)) .n)))
noncomputable def fi35 : FI := mkFI Tryz.f35 0 [.ct (.sl 105), .ct (.i .i64)] [(false, [.ct (.i .i64)])] (fun _ => (.s .n (.s (.s .n (.b (.b (.s .n (.s (.b .n ⟨ol 105 :: oi :: uu 3 (oi :: uu 36 []), []⟩) .n)) ⟨ol 105 :: oi :: uu 3 (oi :: uu 36 []), []⟩) ⟨ou :: oi :: uu 40 [], []⟩)) .n)))
noncomputable def fi36 : FI := mkFI Tryz.f36 0 [.ct (.sl 68), .ct (.i .i64)] [(false, [.ct (.i .i64)])] (fun _ => (.s .n (.s (.s .n (.b (.b (.s .n (.s (.b .n ⟨ol 68 :: oi :: uu 3 (oi :: uu 26 []), []⟩) .n)) ⟨ol 68 :: oi :: uu 3 (oi :: uu 26 []), []⟩) ⟨ou :: oi :: uu 30 [], []⟩)) .n)))
noncomputable def fi37 : FI := mkFI Tryz.f37 0 [.ct (.sl 108), .ct (.i .i64)] [(false, [.ct (.i .i64)])] (fun _ => (.s .n (.s (.s .n (.b (.b (.s .n (.s (.b .n ⟨ol 108 :: oi :: uu 3 (oi :: uu 26 []), []⟩) .n)) ⟨ol 108 :: oi :: uu 3 (oi :: uu 26 []), []⟩) ⟨ou :: oi :: uu 30 [], []⟩)) .n)))
noncomputable def fi44 : FI := mkFI Tryz.f44 0 [.ct (.sl 9), .ct (.i .i64)] [(false, [.ct (.i .i64)])] (fun _ => (.s .n (.s .n (.s .n (.s (.s .n (.b (.b (.s .n (.s (.b .n ⟨ol 9 :: oi :: uu 3 (oi :: uu 22 []), []⟩) .n)) ⟨ol 9 :: oi :: uu 3 (oi :: uu 22 []), []⟩) ⟨ou :: oi :: uu 26 [], []⟩)) .n)))))
noncomputable def fi45 : FI := mkFI Tryz.f45 0 [.ct (.sl 118), .ct (.i .i64)] [(false, [.ct (.i .i64)])] (fun _ => (.s .n (.s .n (.s .n (.s (.s .n (.b (.b (.s .n (.s (.b .n ⟨ol 118 :: oi :: uu 3 (oi :: uu 21 []), []⟩) .n)) ⟨ol 118 :: oi :: uu 3 (oi :: uu 21 []), []⟩) ⟨ou :: oi :: uu 25 [], []⟩)) .n)))))
noncomputable def fi46 : FI := mkFI Tryz.f46 0 [.ct (.sl 124), .ct (.i .i64)] [(false, [.ct (.i .i64)])] (fun _ => (.s .n (.s .n (.s .n (.s (.s .n (.b (.b (.s .n (.s (.b .n ⟨ol 124 :: oi :: uu 3 (oi :: uu 21 []), []⟩) .n)) ⟨ol 124 :: oi :: uu 3 (oi :: uu 21 []), []⟩) ⟨ou :: oi :: uu 25 [], []⟩)) .n)))))
noncomputable def fi47 : FI := mkFI Tryz.f47 0 [.ct (.sl 127), .ct (.i .i64)] [(false, [.ct (.i .i64)])] (fun _ => (.s .n (.s .n (.s .n (.s (.s .n (.b (.b (.s .n (.s (.b .n ⟨ol 127 :: oi :: uu 3 (oi :: uu 21 []), []⟩) .n)) ⟨ol 127 :: oi :: uu 3 (oi :: uu 21 []), []⟩) ⟨ou :: oi :: uu 25 [], []⟩)) .n)))))
noncomputable def fi48 : FI := mkFI Tryz.f48 0 [.ct (.sl 129), .ct (.i .i64)] [(false, [.ct (.i .i64)])] (fun _ => (.s .n (.s .n (.s .n (.s (.s .n (.b (.b (.s .n (.s (.b .n ⟨ol 129 :: oi :: uu 3 (oi :: uu 21 []), []⟩) .n)) ⟨ol 129 :: oi :: uu 3 (oi :: uu 21 []), []⟩) ⟨ou :: oi :: uu 25 [], []⟩)) .n)))))
noncomputable def fi49 : FI := mkFI Tryz.f49 0 [.ct (.sl 133), .ct (.i .i64)] [(false, [.ct (.i .i64)])] (fun _ => (.s .n (.s .n (.s .n (.s (.s .n (.b (.b (.s .n (.s (.b .n ⟨ol 133 :: oi :: uu 3 (oi :: uu 21 []), []⟩) .n)) ⟨ol 133 :: oi :: uu 3 (oi :: uu 21 []), []⟩) ⟨ou :: oi :: uu 25 [], []⟩)) .n)))))
noncomputable def fi54 : FI := mkFI Tryz.f54 4 [.ct (.sl 9)] [(false, [.new 9])] (fun _ => (.s .n (.s (.r [0, 0, 0, 0] none) (.s (.s .n (.b (.b (.s .n (.s (.b .n ⟨ol 9 :: ou :: ou :: .one (.own 9 2) :: oi :: uu 17 [], vv 4 []⟩) .n)) ⟨ol 9 :: ou :: ou :: .one (.own 9 1) :: oi :: uu 17 [], vv 4 []⟩) ⟨uu 3 (.one (.own 9 3) :: uu 18 []), vv 4 []⟩)) .n))))
noncomputable def fi55 : FI := mkFI Tryz.f55 7 [.ct (.sl 118)] [(false, [.new 1097])] (fun _ => (.s .n (.s (.r [0, 0, 1, 0] none) (.s (.s .n (.b (.b (.s .n (.s (.b (.r [0, 0, 0, 0, 0, 0, 3, 0, 0] none) ⟨ol 118 :: ou :: ou :: .one (.own 1097 5) :: oi :: uu 18 [], vv 7 []⟩) .n)) ⟨ol 118 :: ou :: ou :: .one (.own 1097 2) :: oi :: uu 18 [], vv 7 []⟩) ⟨uu 3 (.one (.own 1097 6) :: uu 19 []), vv 7 []⟩)) .n))))
noncomputable def fi56 : FI := mkFI Tryz.f56 8 [.ct (.sl 124)] [(false, [.new 1102])] (fun _ => (.s .n (.s (.r [0, 0, 1, 0] none) (.s (.s .n (.b (.b (.s .n (.s (.b (.r [0, 0, 0, 0, 0, 0, 3, 0, 0] none) ⟨ol 124 :: ou :: ou :: .one (.own 1102 6) :: oi :: uu 18 [], vv 8 []⟩) .n)) ⟨ol 124 :: ou :: ou :: .one (.own 1102 2) :: oi :: uu 18 [], vv 8 []⟩) ⟨uu 3 (.one (.own 1102 7) :: uu 19 []), vv 8 []⟩)) .n))))
noncomputable def fi57 : FI := mkFI Tryz.f57 6 [.ct (.sl 127)] [(false, [.new 1105])] (fun _ => (.s .n (.s (.r [0, 0, 1, 0] none) (.s (.s .n (.b (.b (.s .n (.s (.b (.r [0, 0, 0, 0, 0, 0, 3, 0, 0] none) ⟨ol 127 :: ou :: ou :: .one (.own 1105 4) :: oi :: uu 18 [], vv 6 []⟩) .n)) ⟨ol 127 :: ou :: ou :: .one (.own 1105 2) :: oi :: uu 18 [], vv 6 []⟩) ⟨uu 3 (.one (.own 1105 5) :: uu 19 []), vv 6 []⟩)) .n))))
noncomputable def fi58 : FI := mkFI Tryz.f58 4 [.ct (.sl 129)] [(false, [.new 68])] (fun _ => (.s .n (.s (.r [0, 0, 0, 0] none) (.s (.s .n (.b (.b (.s .n (.s (.b .n ⟨ol 129 :: ou :: ou :: .one (.own 68 2) :: oi :: uu 18 [], vv 4 []⟩) .n)) ⟨ol 129 :: ou :: ou :: .one (.own 68 1) :: oi :: uu 18 [], vv 4 []⟩) ⟨uu 3 (.one (.own 68 3) :: uu 19 []), vv 4 []⟩)) .n))))
noncomputable def fi59 : FI := mkFI Tryz.f59 6 [.ct (.sl 133)] [(false, [.new 1108])] (fun _ => (.s .n (.s (.r [0, 0, 1, 0] none) (.s (.s .n (.b (.b (.s .n (.s (.b (.r [0, 0, 0, 0, 0, 0, 3, 0, 0] none) ⟨ol 133 :: ou :: ou :: .one (.own 1108 4) :: oi :: uu 18 [], vv 6 []⟩) .n)) ⟨ol 133 :: ou :: ou :: .one (.own 1108 2) :: oi :: uu 18 [], vv 6 []⟩) ⟨uu 3 (.one (.own 1108 5) :: uu 19 []), vv 6 []⟩)) .n))))
noncomputable def fi50 : FI := mkFI Tryz.f50 11 [.ct (.sl 97)] [(false, [.new 1097])] (fun _ => (.s .n (.s (.r [1, 0] none) (.s (.s .n (.b (.b (.s .n (.s (.b (.s (.r [0, 0, 0, 0, 3, 0] none) (.s (.r [0, 0, 4, 0, 0] none) (.s (.r [0, 0, 5, 0, 0] none) (.r [0, 0, 7, 8, 0] none)))) ⟨ol 97 :: ou :: ou :: .one (.own 1097 9) :: oi :: uu 25 [], vv 11 []⟩) .n)) ⟨ol 97 :: ou :: ou :: .one (.own 1097 2) :: oi :: uu 25 [], vv 11 []⟩) ⟨uu 3 (.one (.own 1097 10) :: uu 26 []), vv 11 []⟩)) .n))))
noncomputable def fi51 : FI := mkFI Tryz.f51 11 [.ct (.sl 102)] [(false, [.new 1102])] (fun _ => (.s .n (.s (.r [1, 0] none) (.s (.s .n (.b (.b (.s .n (.s (.b (.s (.r [0, 0, 0, 0, 3, 0] none) (.s (.r [0, 0, 4, 0, 0] none) (.s (.r [0, 0, 6, 0, 0] none) (.r [0, 0, 7, 8, 0] none)))) ⟨ol 102 :: ou :: ou :: .one (.own 1102 9) :: oi :: uu 25 [], vv 11 []⟩) .n)) ⟨ol 102 :: ou :: ou :: .one (.own 1102 2) :: oi :: uu 25 [], vv 11 []⟩) ⟨uu 3 (.one (.own 1102 10) :: uu 26 []), vv 11 []⟩)) .n))))
noncomputable def fi52 : FI := mkFI Tryz.f52 9 [.ct (.sl 105)] [(false, [.new 1105])] (fun _ => (.s .n (.s (.r [1, 0] none) (.s (.s .n (.b (.b (.s .n (.s (.b (.s (.r [0, 0, 0, 0, 3, 0] none) (.s (.r [0, 0, 4, 0, 0] none) (.r [0, 0, 5, 6, 0] none))) ⟨ol 105 :: ou :: ou :: .one (.own 1105 7) :: oi :: uu 21 [], vv 9 []⟩) .n)) ⟨ol 105 :: ou :: ou :: .one (.own 1105 2) :: oi :: uu 21 [], vv 9 []⟩) ⟨uu 3 (.one (.own 1105 8) :: uu 22 []), vv 9 []⟩)) .n))))
noncomputable def fi53 : FI := mkFI Tryz.f53 9 [.ct (.sl 108)] [(false, [.new 1108])] (fun _ => (.s .n (.s (.r [1, 0] none) (.s (.s .n (.b (.b (.s .n (.s (.b (.r [0, 0, 0, 0, 0, 0, 0, 0, 0, 0, 0, 3, 0, 5, 6, 0] none) ⟨ol 108 :: ou :: ou :: .one (.own 1108 7) :: oi :: uu 23 [], vv 9 []⟩) .n)) ⟨ol 108 :: ou :: ou :: .one (.own 1108 2) :: oi :: uu 23 [], vv 9 []⟩) ⟨uu 3 (.one (.own 1108 8) :: uu 24 []), vv 9 []⟩)) .n))))
noncomputable def fi60 : FI := mkFI Tryz.f60 8 [.ag [.i .i64, .b, .s, .s, .sl 9, .sl 97, .sl 102, .sl 105, .sl 68, .b, .sl 108]] [(true, [.ct (.i .i64), .ct .b, .ct .s, .ct .s, .new 9, .new 1097, .new 1102, .new 1105, .new 68, .ct .b, .new 1108])] (fun _ => (.s (.r [0, 1] none) (.s (.r [0, 0, 2, 0, 0] none) (.s (.r [0, 0, 3, 0, 0] none) (.s (.r [0, 0, 4, 0, 0] none) (.s (.r [0, 0, 5, 0, 0] none) (.s (.r [0, 0, 6, 0, 0] none) (.s (.r [0, 0, 7, 0, 0] none) .n))))))))
noncomputable def fi63 : FI := mkFI Tryz.f63 0 [.ct (.sl 9), .ct (.sl 9)] [(false, [.ct .b])] (fun _ => (.s .n (.s .n (.s (.s .n (.b (.b (.s .n (.s (.b .n ⟨ol 9 :: ol 9 :: uu 3 (oi :: uu 20 []), []⟩) .n)) ⟨ol 9 :: ol 9 :: uu 3 (oi :: uu 20 []), []⟩) ⟨uu 26 [], []⟩)) .n))))
noncomputable def fi64 : FI := mkFI Tryz.f64 0 [.ct (.sl 97), .ct (.sl 97)] [(false, [.ct .b])] (fun _ => (.s .n (.s .n (.s (.s .n (.b (.b (.s .n (.s (.b .n ⟨ol 97 :: ol 97 :: uu 3 (oi :: uu 21 []), []⟩) .n)) ⟨ol 97 :: ol 97 :: uu 3 (oi :: uu 21 []), []⟩) ⟨uu 27 [], []⟩)) .n))))
noncomputable def fi65 : FI := mkFI Tryz.f65 0 [.ct (.sl 102), .ct (.sl 102)] [(false, [.ct .b])] (fun _ => (.s .n (.s .n (.s (.s .n (.b (.b (.s .n (.s (.b .n ⟨ol 102 :: ol 102 :: uu 3 (oi :: uu 21 []), []⟩) .n)) ⟨ol 102 :: ol 102 :: uu 3 (oi :: uu 21 []), []⟩) ⟨uu 27 [], []⟩)) .n))))
noncomputable def fi66 : FI := mkFI Tryz.f66 0 [.ct (.sl 105), .ct (.sl 105)] [(false, [.ct .b])] (fun _ => (.s .n (.s .n (.s (.s .n (.b (.b (.s .n (.s (.b .n ⟨ol 105 :: ol 105 :: uu 3 (oi :: uu 21 []), []⟩) .n)) ⟨ol 105 :: ol 105 :: uu 3 (oi :: uu 21 []), []⟩) ⟨uu 27 [], []⟩)) .n))))
noncomputable def fi43 : FI := mkFI Tryz.f43 0 [.ct (.sl 68), .ct (.sl 68)] [(false, [.ct .b])] (fun _ => (.s .n (.s .n (.s (.s .n (.b (.b (.s .n (.s (.b .n ⟨ol 68 :: ol 68 :: uu 3 (oi :: uu 21 []), []⟩) .n)) ⟨ol 68 :: ol 68 :: uu 3 (oi :: uu 21 []), []⟩) ⟨uu 27 [], []⟩)) .n))))
noncomputable def fi67 : FI := mkFI Tryz.f67 0 [.ct (.sl 108), .ct (.sl 108)] [(false, [.ct .b])] (fun _ => (.s .n (.s .n (.s (.s .n (.b (.b (.s .n (.s (.b .n ⟨ol 108 :: ol 108 :: uu 3 (oi :: uu 21 []), []⟩) .n)) ⟨ol 108 :: ol 108 :: uu 3 (oi :: uu 21 []), []⟩) ⟨uu 27 [], []⟩)) .n))))
noncomputable def fi70 : FI := mkFI Tryz.f70 0 [.ct (.sl 100), .ct (.i .i64)] [(false, [.ct (.i .i64)])] (fun _ => (.s .n (.s (.s .n (.b (.b (.s .n (.s (.b .n ⟨ol 100 :: oi :: uu 3 (oi :: uu 44 []), []⟩) .n)) ⟨ol 100 :: oi :: uu 3 (oi :: uu 44 []), []⟩) ⟨ou :: oi :: uu 48 [], []⟩)) .n)))
noncomputable def fi71 : FI := mkFI Tryz.f71 0 [.ct (.sl 149), .ct (.i .i64)] [(false, [.ct (.i .i64)])] (fun _ => (.s .n (.s (.s .n (.b (.b (.s .n (.s (.b .n ⟨ol 149 :: oi :: uu 3 (oi :: uu 58 []), []⟩) .n)) ⟨ol 149 :: oi :: uu 3 (oi :: uu 58 []), []⟩) ⟨ou :: oi :: uu 62 [], []⟩)) .n)))
noncomputable def fi80 : FI := mkFI Tryz.f80 1 [.ag [.s, .s, .sl 124, .s, .s, .sl 133], .ct (.i .i64)] [(false, [.ct (.i .i64)])] (fun _ => (.s (.r [0, 0] none) .n))
noncomputable def fi81 : FI := mkFI Tryz.f81 1 [.ag [.s, .s, .s, .s, .b, .i .i64, .s, .sl 122, .sl 9, .sl 133], .ct (.i .i64)] [(false, [.ct (.i .i64)])] (fun _ => (.s (.r [0, 0] none) .n))
noncomputable def fi82 : FI := mkFI Tryz.f82 1 [.ag [.s, .s, .sl 133], .ct (.i .i64)] [(false, [.ct (.i .i64)])] (fun _ => (.s (.r [0, 0] none) .n))
noncomputable def fi83 : FI := mkFI Tryz.f83 1 [.ag [.i .i64, .s], .ct (.i .i64)] [(false, [.ct (.i .i64)])] (fun _ => (.s (.r [0, 0] none) .n))
noncomputable def fi84 : FI := mkFI Tryz.f84 1 [.ag [.s, .sl 168], .ct (.i .i64)] [(false, [.ct (.i .i64)])] (fun _ => (.s (.r [0, 0] none) .n))
noncomputable def fi87 : FI := mkFI Tryz.f87 5 [.ag [.s, .s, .sl 124, .s, .s, .sl 133]] [(true, [.ct .s, .ct .s, .new 1102, .ct .s, .ct .s, .new 1108])] (fun _ => (.s (.r [0, 1] none) (.s (.r [2] none) (.s .n (.s .n (.s (.r [0, 0, 3, 0, 0] none) (.s .n (.s (.r [0, 0, 4, 0, 0] none) .n))))))))
noncomputable def fi88 : FI := mkFI Tryz.f88 6 [.ag [.s, .s, .s, .s, .b, .i .i64, .s, .sl 122, .sl 9, .sl 133]] [(true, [.ct .s, .ct .s, .ct .s, .ct .s, .ct .b, .ct (.i .i64), .ct .s, .new 1100, .new 9, .new 1108])] (fun _ => (.s (.r [0, 1] none) (.s (.r [2] none) (.s .n (.s .n (.s .n (.s .n (.s (.r [0, 0, 3, 0, 0] none) (.s (.r [0, 0, 5, 0, 0] none) .n)))))))))
noncomputable def fi89 : FI := mkFI Tryz.f89 4 [.ag [.s, .s, .sl 133]] [(true, [.ct .s, .ct .s, .new 1108])] (fun _ => (.s (.r [0, 1] none) (.s (.r [2] none) (.s .n (.s .n (.s (.r [0, 0, 3, 0, 0] none) .n))))))
noncomputable def fi90 : FI := mkFI Tryz.f90 3 [.ag [.i .i64, .s]] [(true, [.ct (.i .i64), .ct .s])] (fun _ => (.s (.r [0, 1] none) (.s (.r [2] none) .n)))
noncomputable def fi91 : FI := mkFI Tryz.f91 4 [.ag [.s, .sl 168]] [(true, [.ct .s, .new 1149])] (fun _ => (.s (.r [0, 1] none) (.s (.r [2] none) (.s .n (.s (.r [0, 0, 3, 0, 0] none) .n)))))
noncomputable def fi85 : FI := mkFI Tryz.f85 16 [.ag [.i .i64, .s, .sl 100, .sl 9]] [(true, [.ct (.i .i64), .ct .s, .new 1100, .new 9])] (fun _ => (.s (.r [0, 1] none) (.s (.r [0, 0, 0, 0, 2, 0, 0, 3, 0, 4, 0] none) (.s (.s .n (.b (.b (.s .n (.s (.b (.r [0, 0, 0, 0, 0, 0, 0, 6, 9, 10, 0, 0] none) ⟨ou :: .one (.ptr 0 0) :: .one (.ptr 1 0) :: .one (.ptr 4 0) :: oi :: uu 28 [], .var 100 [.i .i64, .s, .sl 100, .sl 9] :: .var 100 [.i .i64, .s, .nil, .nil] :: .u :: .u :: .var 100 [.i .i64, .s, .own 1100 11, .own 9 12] :: vv 11 []⟩) .n)) ⟨ou :: .one (.ptr 0 0) :: .one (.ptr 1 0) :: .one (.ptr 4 0) :: oi :: uu 28 [], .var 100 [.i .i64, .s, .sl 100, .sl 9] :: .var 100 [.i .i64, .s, .nil, .nil] :: .u :: .u :: .var 100 [.i .i64, .s, .own 1100 13, .own 9 5] :: vv 11 []⟩) ⟨ou :: ou :: .one (.ptr 1 0) :: .one (.ptr 4 0) :: uu 29 [], .u :: .var 100 [.i .i64, .s, .nil, .nil] :: .u :: .u :: .var 100 [.i .i64, .s, .own 1100 14, .own 9 15] :: vv 11 []⟩)) .n))))
noncomputable def fi86 : FI := mkFI Tryz.f86 9 [.ct (.sl 149)] [(false, [.new 1149])] (fun _ => (.s .n (.s (.r [1, 0] none) (.s (.s .n (.b (.b (.s .n (.s (.b (.r [0, 0, 0, 0, 0, 0, 0, 0, 0, 0, 0, 3, 0, 5, 6, 0] none) ⟨ol 149 :: ou :: ou :: .one (.own 1149 7) :: oi :: uu 23 [], vv 9 []⟩) .n)) ⟨ol 149 :: ou :: ou :: .one (.own 1149 2) :: oi :: uu 23 [], vv 9 []⟩) ⟨uu 3 (.one (.own 1149 8) :: uu 24 []), vv 9 []⟩)) .n))))
noncomputable def fi92 : FI := { mkFI Tryz.f92 4 [.ct (.sl 9)] [(false, [.new 9])] (fun _ => .n) with prim := some (primC 9) }
noncomputable def ac92 : AC := ann (clCond (Tryz.f92.body.getD .skip)) .n
noncomputable def ar92 : AC := ann (clRest (Tryz.f92.body.getD .skip)) (.s (.r [0, 0, 2, 0] none) .n)
theorem cl92 : ∀ b l, (b = true → l = []) → l.length < LIM → clRun (fun t => look t tyL) fi92 9 ac92 ar92 b l = .ret [.sl l] := by
  intro b l h1 h2
  cases b with
  | true =>
    obtain rfl := h1 rfl
    kernel_rfl
  | false =>
    refine (show clRun (fun t => look t tyL) fi92 9 ac92 ar92 false l = (if ([] : List (List DC)).length + l.length < LIM then Out.ret [.sl ([] ++ l)] else .fail) from by kernel_rfl).trans ?_
    rw [if_pos (by simpa using h2), List.nil_append]
noncomputable def fi93 : FI := mkFI Tryz.f93 8 [.ct (.sl 97)] [(false, [.new 1097])] (fun _ => (.s .n (.s .n (.s (.s .n (.b (.b (.s .n (.s .n (.s (.b (.s (.r [0, 0, 0, 0] none) (.s (.r [0, 0, 1, 0, 0] none) (.s (.r [0, 0, 2, 0, 0] none) (.r [0, 0, 3, 4, 0] none)))) ⟨uu 3 (.one (.own 1097 5) :: ou :: ou :: ol 97 :: oi :: oi :: uu 17 []), vv 8 []⟩) .n))) ⟨uu 3 (.one (.own 1097 6) :: ou :: ou :: ol 97 :: oi :: oi :: uu 17 []), vv 8 []⟩) ⟨uu 3 (.one (.own 1097 7) :: uu 22 []), vv 8 []⟩)) .n))))
noncomputable def fi94 : FI := mkFI Tryz.f94 10 [.ct (.sl 102)] [(false, [.new 1102])] (fun _ => (.s .n (.s .n (.s (.s .n (.b (.b (.s .n (.s .n (.s (.b (.s (.r [0, 0, 0, 0] none) (.s (.r [0, 0, 1, 0, 0] none) (.s (.r [0, 0, 3, 0, 0] none) (.r [0, 0, 5, 6, 0] none)))) ⟨uu 3 (.one (.own 1102 7) :: ou :: ou :: ol 102 :: oi :: oi :: uu 17 []), vv 10 []⟩) .n))) ⟨uu 3 (.one (.own 1102 8) :: ou :: ou :: ol 102 :: oi :: oi :: uu 17 []), vv 10 []⟩) ⟨uu 3 (.one (.own 1102 9) :: uu 22 []), vv 10 []⟩)) .n))))
noncomputable def fi95 : FI := mkFI Tryz.f95 8 [.ct (.sl 105)] [(false, [.new 1105])] (fun _ => (.s .n (.s .n (.s (.s .n (.b (.b (.s .n (.s .n (.s (.b (.s (.r [0, 0, 0, 0] none) (.s (.r [0, 0, 1, 0, 0] none) (.r [0, 0, 3, 4, 0] none))) ⟨uu 3 (.one (.own 1105 5) :: ou :: ou :: ol 105 :: oi :: oi :: uu 13 []), vv 8 []⟩) .n))) ⟨uu 3 (.one (.own 1105 6) :: ou :: ou :: ol 105 :: oi :: oi :: uu 13 []), vv 8 []⟩) ⟨uu 3 (.one (.own 1105 7) :: uu 18 []), vv 8 []⟩)) .n))))
noncomputable def fi96 : FI := { mkFI Tryz.f96 4 [.ct (.sl 68)] [(false, [.new 68])] (fun _ => .n) with prim := some (primC 68) }
noncomputable def ac96 : AC := ann (clCond (Tryz.f96.body.getD .skip)) .n
noncomputable def ar96 : AC := ann (clRest (Tryz.f96.body.getD .skip)) (.s (.r [0, 0, 2, 0] none) .n)
theorem cl96 : ∀ b l, (b = true → l = []) → l.length < LIM → clRun (fun t => look t tyL) fi96 68 ac96 ar96 b l = .ret [.sl l] := by
  intro b l h1 h2
  cases b with
  | true =>
    obtain rfl := h1 rfl
    kernel_rfl
  | false =>
    refine (show clRun (fun t => look t tyL) fi96 68 ac96 ar96 false l = (if ([] : List (List DC)).length + l.length < LIM then Out.ret [.sl ([] ++ l)] else .fail) from by kernel_rfl).trans ?_
    rw [if_pos (by simpa using h2), List.nil_append]
noncomputable def fi97 : FI := mkFI Tryz.f97 8 [.ct (.sl 108)] [(false, [.new 1108])] (fun _ => (.s .n (.s .n (.s (.s .n (.b (.b (.s .n (.s .n (.s (.b (.s (.r [0, 0, 0, 0] none) (.r [0, 0, 0, 0, 0, 1, 0, 3, 4, 0] none)) ⟨uu 3 (.one (.own 1108 5) :: ou :: ou :: ol 108 :: oi :: oi :: uu 14 []), vv 8 []⟩) .n))) ⟨uu 3 (.one (.own 1108 6) :: ou :: ou :: ol 108 :: oi :: oi :: uu 14 []), vv 8 []⟩) ⟨uu 3 (.one (.own 1108 7) :: uu 19 []), vv 8 []⟩)) .n))))
noncomputable def fi101 : FI := mkFI Tryz.f101 2 [.ag [.s, .s, .sl 102, .s, .s, .sl 108], .ag [.s, .s, .sl 102, .s, .s, .sl 108]] [(false, [.ct .b])] (fun _ => (.s (.r [0, 1, 0] none) .n))
noncomputable def fi102 : FI := mkFI Tryz.f102 2 [.ag [.s, .s, .s, .s, .b, .i .i64, .s, .sl 100, .sl 9, .sl 108], .ag [.s, .s, .s, .s, .b, .i .i64, .s, .sl 100, .sl 9, .sl 108]] [(false, [.ct .b])] (fun _ => (.s (.r [0, 1, 0] none) .n))
noncomputable def fi103 : FI := mkFI Tryz.f103 2 [.ag [.s, .s, .sl 108], .ag [.s, .s, .sl 108]] [(false, [.ct .b])] (fun _ => (.s (.r [0, 1, 0] none) .n))
noncomputable def fi79 : FI := mkFI Tryz.f79 2 [.ag [.i .i64, .s], .ag [.i .i64, .s]] [(false, [.ct .b])] (fun _ => (.s (.r [0, 1, 0] none) .n))
noncomputable def fi104 : FI := mkFI Tryz.f104 2 [.ag [.s, .sl 149], .ag [.s, .sl 149]] [(false, [.ct .b])] (fun _ => (.s (.r [0, 1, 0] none) .n))
noncomputable def fi108 : FI := mkFI Tryz.f108 1 [.ag [.s, .s], .ct (.i .i64)] [(false, [.ct (.i .i64)])] (fun _ => (.s (.r [0, 0] none) .n))
noncomputable def fi109 : FI := mkFI Tryz.f109 1 [.ag [.i .i64, .s, .sl 122, .sl 9], .ct (.i .i64)] [(false, [.ct (.i .i64)])] (fun _ => (.s (.r [0, 0] none) .n))
noncomputable def fi110 : FI := mkFI Tryz.f110 0 [.ct (.sl 168), .ct (.i .i64)] [(false, [.ct (.i .i64)])] (fun _ => (.s .n (.s .n (.s .n (.s (.s .n (.b (.b (.s .n (.s (.b .n ⟨ol 168 :: oi :: uu 3 (oi :: uu 21 []), []⟩) .n)) ⟨ol 168 :: oi :: uu 3 (oi :: uu 21 []), []⟩) ⟨ou :: oi :: uu 25 [], []⟩)) .n)))))
noncomputable def fi111 : FI := mkFI Tryz.f111 3 [.ag [.s, .s]] [(true, [.ct .s, .ct .s])] (fun _ => (.s (.r [0, 1] none) (.s (.r [2] none) .n)))
noncomputable def fi112 : FI := mkFI Tryz.f112 5 [.ag [.i .i64, .s, .sl 122, .sl 9]] [(true, [.ct (.i .i64), .ct .s, .new 1100, .new 9])] (fun _ => (.s (.r [0, 1] none) (.s (.r [2] none) (.s .n (.s .n (.s (.r [0, 0, 3, 0, 0] none) (.s (.r [0, 0, 4, 0, 0] none) .n)))))))
noncomputable def fi113 : FI := mkFI Tryz.f113 7 [.ct (.sl 168)] [(false, [.new 1149])] (fun _ => (.s .n (.s (.r [0, 0, 1, 0] none) (.s (.s .n (.b (.b (.s .n (.s (.b (.r [0, 0, 0, 0, 0, 0, 3, 0, 0] none) ⟨ol 168 :: ou :: ou :: .one (.own 1149 5) :: oi :: uu 18 [], vv 7 []⟩) .n)) ⟨ol 168 :: ou :: ou :: .one (.own 1149 2) :: oi :: uu 18 [], vv 7 []⟩) ⟨uu 3 (.one (.own 1149 6) :: uu 19 []), vv 7 []⟩)) .n))))
noncomputable def fi114 : FI := mkFI Tryz.f114 16 [.ag [.i .i64, .s, .sl 100, .sl 9]] [(true, [.ct (.i .i64), .ct .s, .new 1100, .new 9])] (fun _ => (.s (.r [0, 1] none) (.s (.r [0, 0, 0, 0, 0, 0, 2, 0, 3, 0] none) (.s (.s .n (.b (.b (.s .n (.s .n (.s (.b (.s (.r [0, 0, 5, 0] none) (.r [0, 0, 0, 6, 9, 10, 0, 0] none)) ⟨ou :: ou :: .one (.ptr 1 0) :: .one (.ptr 3 0) :: uu 11 (ol 100 :: oi :: oi :: uu 12 []), .u :: .var 100 [.i .i64, .s, .nil, .nil] :: .u :: .var 100 [.i .i64, .s, .own 1100 11, .own 9 12] :: vv 12 []⟩) .n))) ⟨ou :: ou :: .one (.ptr 1 0) :: .one (.ptr 3 0) :: uu 11 (ol 100 :: oi :: oi :: uu 12 []), .u :: .var 100 [.i .i64, .s, .nil, .nil] :: .u :: .var 100 [.i .i64, .s, .own 1100 13, .own 9 4] :: vv 12 []⟩) ⟨ou :: ou :: .one (.ptr 1 0) :: .one (.ptr 3 0) :: uu 26 [], .u :: .var 100 [.i .i64, .s, .nil, .nil] :: .u :: .var 100 [.i .i64, .s, .own 1100 14, .own 9 15] :: vv 12 []⟩)) .n))))
noncomputable def fi115 : FI := mkFI Tryz.f115 8 [.ct (.sl 149)] [(false, [.new 1149])] (fun _ => (.s .n (.s .n (.s (.s .n (.b (.b (.s .n (.s .n (.s (.b (.s (.r [0, 0, 0, 0] none) (.r [0, 0, 0, 0, 0, 1, 0, 3, 4, 0] none)) ⟨uu 3 (.one (.own 1149 5) :: ou :: ou :: ol 149 :: oi :: oi :: uu 14 []), vv 8 []⟩) .n))) ⟨uu 3 (.one (.own 1149 6) :: ou :: ou :: ol 149 :: oi :: oi :: uu 14 []), vv 8 []⟩) ⟨uu 3 (.one (.own 1149 7) :: uu 19 []), vv 8 []⟩)) .n))))
noncomputable def fi117 : FI := mkFI Tryz.f117 2 [.ag [.s, .s], .ag [.s, .s]] [(false, [.ct .b])] (fun _ => (.s (.r [0, 1, 0] none) .n))
noncomputable def fi118 : FI := mkFI Tryz.f118 2 [.ag [.i .i64, .s, .sl 100, .sl 9], .ag [.i .i64, .s, .sl 100, .sl 9]] [(false, [.ct .b])] (fun _ => (.s (.r [0, 1, 0] none) .n))
noncomputable def fi119 : FI := mkFI Tryz.f119 0 [.ct (.sl 149), .ct (.sl 149)] [(false, [.ct .b])] (fun _ => (.s .n (.s .n (.s (.s .n (.b (.b (.s .n (.s (.b .n ⟨ol 149 :: ol 149 :: uu 3 (oi :: uu 21 []), []⟩) .n)) ⟨ol 149 :: ol 149 :: uu 3 (oi :: uu 21 []), []⟩) ⟨uu 27 [], []⟩)) .n))))
noncomputable def fi123 : FI := mkFI Tryz.f123 0 [.ct (.sl 122), .ct (.i .i64)] [(false, [.ct (.i .i64)])] (fun _ => (.s .n (.s .n (.s .n (.s (.s .n (.b (.b (.s .n (.s (.b .n ⟨ol 122 :: oi :: uu 3 (oi :: uu 21 []), []⟩) .n)) ⟨ol 122 :: oi :: uu 3 (oi :: uu 21 []), []⟩) ⟨ou :: oi :: uu 25 [], []⟩)) .n)))))
noncomputable def fi124 : FI := mkFI Tryz.f124 1 [.ag [.s, .i .i64, .s, .sl 122, .sl 9], .ct (.i .i64)] [(false, [.ct (.i .i64)])] (fun _ => (.s (.r [0, 0] none) .n))
noncomputable def fi125 : FI := mkFI Tryz.f125 7 [.ct (.sl 122)] [(false, [.new 1100])] (fun _ => (.s .n (.s (.r [0, 0, 1, 0] none) (.s (.s .n (.b (.b (.s .n (.s (.b (.r [0, 0, 0, 0, 0, 0, 3, 0, 0] none) ⟨ol 122 :: ou :: ou :: .one (.own 1100 5) :: oi :: uu 18 [], vv 7 []⟩) .n)) ⟨ol 122 :: ou :: ou :: .one (.own 1100 2) :: oi :: uu 18 [], vv 7 []⟩) ⟨uu 3 (.one (.own 1100 6) :: uu 19 []), vv 7 []⟩)) .n))))
noncomputable def fi126 : FI := mkFI Tryz.f126 5 [.ag [.s, .i .i64, .s, .sl 122, .sl 9]] [(true, [.ct .s, .ct (.i .i64), .ct .s, .new 1100, .new 9])] (fun _ => (.s (.r [0, 1] none) (.s (.r [2] none) (.s .n (.s (.r [0, 0, 3, 0, 0] none) .n)))))
noncomputable def fi128 : FI := mkFI Tryz.f128 0 [.ct (.sl 100), .ct (.sl 100)] [(false, [.ct .b])] (fun _ => (.s .n (.s .n (.s (.s .n (.b (.b (.s .n (.s (.b .n ⟨ol 100 :: ol 100 :: uu 3 (oi :: uu 21 []), []⟩) .n)) ⟨ol 100 :: ol 100 :: uu 3 (oi :: uu 21 []), []⟩) ⟨uu 27 [], []⟩)) .n))))
noncomputable def fi129 : FI := mkFI Tryz.f129 2 [.ag [.s, .i .i64, .s, .sl 100, .sl 9], .ag [.s, .i .i64, .s, .sl 100, .sl 9]] [(false, [.ct .b])] (fun _ => (.s (.r [0, 1, 0] none) .n))
noncomputable def fi10 : FI := { mkFI Tryz.f10 0 [] [] (fun _ => .n) with mark := some (mkI mT mTab 10 50) }
noncomputable def fi26 : FI := { mkFI Tryz.f26 0 [] [] (fun _ => .n) with mark := some (mkI mT mTab 26 9) }
noncomputable def fi27 : FI := { mkFI Tryz.f27 0 [] [] (fun _ => .n) with mark := some (mkI mT mTab 27 97) }
noncomputable def fi28 : FI := { mkFI Tryz.f28 0 [] [] (fun _ => .n) with mark := some (mkI mT mTab 28 102) }
noncomputable def fi29 : FI := { mkFI Tryz.f29 0 [] [] (fun _ => .n) with mark := some (mkI mT mTab 29 105) }
noncomputable def fi30 : FI := { mkFI Tryz.f30 0 [] [] (fun _ => .n) with mark := some (mkI mT mTab 30 68) }
noncomputable def fi31 : FI := { mkFI Tryz.f31 0 [] [] (fun _ => .n) with mark := some (mkI mT mTab 31 108) }
noncomputable def fi68 : FI := { mkFI Tryz.f68 0 [] [] (fun _ => .n) with mark := some (mkI mT mTab 68 100) }
noncomputable def fi69 : FI := { mkFI Tryz.f69 0 [] [] (fun _ => .n) with mark := some (mkI mT mTab 69 149) }
noncomputable def fi21 : FI := { mkFI Tryz.f21 0 [] [] (fun _ => .n) with stf := some (qStb 50 22 3) }
noncomputable def fnL : List (Nat × FI) := [(3, fi3), (5, fi5), (7, fi7), (6, fi6), (8, fi8), (9, fi9), (11, fi11), (17, fi17), (19, fi19), (18, fi18), (20, fi20), (24, fi24), (25, fi25), (32, fi32), (33, fi33), (34, fi34), (35, fi35), (36, fi36), (37, fi37), (44, fi44), (45, fi45), (46, fi46), (47, fi47), (48, fi48), (49, fi49), (54, fi54), (55, fi55), (56, fi56), (57, fi57), (58, fi58), (59, fi59), (50, fi50), (51, fi51), (52, fi52), (53, fi53), (60, fi60), (63, fi63), (64, fi64), (65, fi65), (66, fi66), (43, fi43), (67, fi67), (70, fi70), (71, fi71), (80, fi80), (81, fi81), (82, fi82), (83, fi83), (84, fi84), (87, fi87), (88, fi88), (89, fi89), (90, fi90), (91, fi91), (85, fi85), (86, fi86), (92, fi92), (93, fi93), (94, fi94), (95, fi95), (96, fi96), (97, fi97), (101, fi101), (102, fi102), (103, fi103), (79, fi79), (104, fi104), (108, fi108), (109, fi109), (110, fi110), (111, fi111), (112, fi112), (113, fi113), (114, fi114), (115, fi115), (117, fi117), (118, fi118), (119, fi119), (123, fi123), (124, fi124), (125, fi125), (126, fi126), (128, fi128), (129, fi129), (10, fi10), (26, fi26), (27, fi27), (28, fi28), (29, fi29), (30, fi30), (31, fi31), (68, fi68), (69, fi69), (21, fi21)]
noncomputable def cfg : Cfg := ⟨fun t => look t tyL, fun f => look f fnL⟩
theorem fns : ∀ x ∈ fnL, FnOk Tryz.prog Glob.none cfg.ty x.1 x.2 :=
  all_cons (mkFI_ok Tryz.func3 (by kernel_rfl)) <|
  all_cons (mkFI_ok Tryz.func5 (by kernel_rfl)) <|
  all_cons (mkFI_ok Tryz.func7 (by kernel_rfl)) <|
  all_cons (mkFI_ok Tryz.func6 (by kernel_rfl)) <|
  all_cons (mkFI_ok Tryz.func8 (by kernel_rfl)) <|
  all_cons (mkFI_ok Tryz.func9 (by kernel_rfl)) <|
  all_cons (mkFI_ok Tryz.func11 (by kernel_rfl)) <|
  all_cons (mkFI_ok Tryz.func17 (by kernel_rfl)) <|
  all_cons (mkFI_ok Tryz.func19 (by kernel_rfl)) <|
  all_cons (mkFI_ok Tryz.func18 (by kernel_rfl)) <|
  all_cons (mkFI_ok Tryz.func20 (by kernel_rfl)) <|
  all_cons (mkFI_ok Tryz.func24 (by kernel_rfl)) <|
  all_cons (mkFI_ok Tryz.func25 (by kernel_rfl)) <|
  all_cons (mkFI_ok Tryz.func32 (by kernel_rfl)) <|
  all_cons (mkFI_ok Tryz.func33 (by kernel_rfl)) <|
  all_cons (mkFI_ok Tryz.func34 (by kernel_rfl)) <|
  all_cons (mkFI_ok Tryz.func35 (by kernel_rfl)) <|
  all_cons (mkFI_ok Tryz.func36 (by kernel_rfl)) <|
  all_cons (mkFI_ok Tryz.func37 (by kernel_rfl)) <|
  all_cons (mkFI_ok Tryz.func44 (by kernel_rfl)) <|
  all_cons (mkFI_ok Tryz.func45 (by kernel_rfl)) <|
  all_cons (mkFI_ok Tryz.func46 (by kernel_rfl)) <|
  all_cons (mkFI_ok Tryz.func47 (by kernel_rfl)) <|
  all_cons (mkFI_ok Tryz.func48 (by kernel_rfl)) <|
  all_cons (mkFI_ok Tryz.func49 (by kernel_rfl)) <|
  all_cons (mkFI_ok Tryz.func54 (by kernel_rfl)) <|
  all_cons (mkFI_ok Tryz.func55 (by kernel_rfl)) <|
  all_cons (mkFI_ok Tryz.func56 (by kernel_rfl)) <|
  all_cons (mkFI_ok Tryz.func57 (by kernel_rfl)) <|
  all_cons (mkFI_ok Tryz.func58 (by kernel_rfl)) <|
  all_cons (mkFI_ok Tryz.func59 (by kernel_rfl)) <|
  all_cons (mkFI_ok Tryz.func50 (by kernel_rfl)) <|
  all_cons (mkFI_ok Tryz.func51 (by kernel_rfl)) <|
  all_cons (mkFI_ok Tryz.func52 (by kernel_rfl)) <|
  all_cons (mkFI_ok Tryz.func53 (by kernel_rfl)) <|
  all_cons (mkFI_ok Tryz.func60 (by kernel_rfl)) <|
  all_cons (mkFI_ok Tryz.func63 (by kernel_rfl)) <|
  all_cons (mkFI_ok Tryz.func64 (by kernel_rfl)) <|
  all_cons (mkFI_ok Tryz.func65 (by kernel_rfl)) <|
  all_cons (mkFI_ok Tryz.func66 (by kernel_rfl)) <|
  all_cons (mkFI_ok Tryz.func43 (by kernel_rfl)) <|
  all_cons (mkFI_ok Tryz.func67 (by kernel_rfl)) <|
  all_cons (mkFI_ok Tryz.func70 (by kernel_rfl)) <|
  all_cons (mkFI_ok Tryz.func71 (by kernel_rfl)) <|
  all_cons (mkFI_ok Tryz.func80 (by kernel_rfl)) <|
  all_cons (mkFI_ok Tryz.func81 (by kernel_rfl)) <|
  all_cons (mkFI_ok Tryz.func82 (by kernel_rfl)) <|
  all_cons (mkFI_ok Tryz.func83 (by kernel_rfl)) <|
  all_cons (mkFI_ok Tryz.func84 (by kernel_rfl)) <|
  all_cons (mkFI_ok Tryz.func87 (by kernel_rfl)) <|
  all_cons (mkFI_ok Tryz.func88 (by kernel_rfl)) <|
  all_cons (mkFI_ok Tryz.func89 (by kernel_rfl)) <|
  all_cons (mkFI_ok Tryz.func90 (by kernel_rfl)) <|
  all_cons (mkFI_ok Tryz.func91 (by kernel_rfl)) <|
  all_cons (mkFI_ok Tryz.func85 (by kernel_rfl)) <|
  all_cons (mkFI_ok Tryz.func86 (by kernel_rfl)) <|
  all_cons (prim_clone (e := 9) (ac := ac92) (ar := ar92) (tyB_ok tys).1 (by kernel_rfl) Tryz.func92 (by kernel_rfl) (by kernel_rfl) rfl rfl ⟨_, _, _, _, _, _, _, rfl, ⟨rfl, rfl, rfl⟩, ⟨rfl, rfl, rfl⟩, ⟨rfl, rfl, rfl⟩, Tryz.underlying37⟩ rfl rfl (by decide +kernel) cl92) <|
  all_cons (mkFI_ok Tryz.func93 (by kernel_rfl)) <|
  all_cons (mkFI_ok Tryz.func94 (by kernel_rfl)) <|
  all_cons (mkFI_ok Tryz.func95 (by kernel_rfl)) <|
  all_cons (prim_clone (e := 68) (ac := ac96) (ar := ar96) (tyB_ok tys).1 (by kernel_rfl) Tryz.func96 (by kernel_rfl) (by kernel_rfl) rfl rfl ⟨_, _, _, _, _, _, _, rfl, ⟨rfl, rfl, rfl⟩, ⟨rfl, rfl, rfl⟩, ⟨rfl, rfl, rfl⟩, Tryz.underlying30⟩ rfl rfl (by decide +kernel) cl96) <|
  all_cons (mkFI_ok Tryz.func97 (by kernel_rfl)) <|
  all_cons (mkFI_ok Tryz.func101 (by kernel_rfl)) <|
  all_cons (mkFI_ok Tryz.func102 (by kernel_rfl)) <|
  all_cons (mkFI_ok Tryz.func103 (by kernel_rfl)) <|
  all_cons (mkFI_ok Tryz.func79 (by kernel_rfl)) <|
  all_cons (mkFI_ok Tryz.func104 (by kernel_rfl)) <|
  all_cons (mkFI_ok Tryz.func108 (by kernel_rfl)) <|
  all_cons (mkFI_ok Tryz.func109 (by kernel_rfl)) <|
  all_cons (mkFI_ok Tryz.func110 (by kernel_rfl)) <|
  all_cons (mkFI_ok Tryz.func111 (by kernel_rfl)) <|
  all_cons (mkFI_ok Tryz.func112 (by kernel_rfl)) <|
  all_cons (mkFI_ok Tryz.func113 (by kernel_rfl)) <|
  all_cons (mkFI_ok Tryz.func114 (by kernel_rfl)) <|
  all_cons (mkFI_ok Tryz.func115 (by kernel_rfl)) <|
  all_cons (mkFI_ok Tryz.func117 (by kernel_rfl)) <|
  all_cons (mkFI_ok Tryz.func118 (by kernel_rfl)) <|
  all_cons (mkFI_ok Tryz.func119 (by kernel_rfl)) <|
  all_cons (mkFI_ok Tryz.func123 (by kernel_rfl)) <|
  all_cons (mkFI_ok Tryz.func124 (by kernel_rfl)) <|
  all_cons (mkFI_ok Tryz.func125 (by kernel_rfl)) <|
  all_cons (mkFI_ok Tryz.func126 (by kernel_rfl)) <|
  all_cons (mkFI_ok Tryz.func128 (by kernel_rfl)) <|
  all_cons (mkFI_ok Tryz.func129 (by kernel_rfl)) <|
  all_cons (mark_fn (mkFI_ok Tryz.func10 (by kernel_rfl)) rfl (mkI_ok mtabok (f := 10) (e := 50) (by kernel_rfl))) <|
  all_cons (mark_fn (mkFI_ok Tryz.func26 (by kernel_rfl)) rfl (mkI_ok mtabok (f := 26) (e := 9) (by kernel_rfl))) <|
  all_cons (mark_fn (mkFI_ok Tryz.func27 (by kernel_rfl)) rfl (mkI_ok mtabok (f := 27) (e := 97) (by kernel_rfl))) <|
  all_cons (mark_fn (mkFI_ok Tryz.func28 (by kernel_rfl)) rfl (mkI_ok mtabok (f := 28) (e := 102) (by kernel_rfl))) <|
  all_cons (mark_fn (mkFI_ok Tryz.func29 (by kernel_rfl)) rfl (mkI_ok mtabok (f := 29) (e := 105) (by kernel_rfl))) <|
  all_cons (mark_fn (mkFI_ok Tryz.func30 (by kernel_rfl)) rfl (mkI_ok mtabok (f := 30) (e := 68) (by kernel_rfl))) <|
  all_cons (mark_fn (mkFI_ok Tryz.func31 (by kernel_rfl)) rfl (mkI_ok mtabok (f := 31) (e := 108) (by kernel_rfl))) <|
  all_cons (mark_fn (mkFI_ok Tryz.func68 (by kernel_rfl)) rfl (mkI_ok mtabok (f := 68) (e := 100) (by kernel_rfl))) <|
  all_cons (mark_fn (mkFI_ok Tryz.func69 (by kernel_rfl)) rfl (mkI_ok mtabok (f := 69) (e := 149) (by kernel_rfl))) <|
  all_cons (stf_fn (mkFI_ok Tryz.func21 (by kernel_rfl)) (stStb fun te h => by injection (show look 50 tyL = some te from h) with h; subst h; rfl)) <| all_nil
noncomputable def r_laws_FnExactSortDefs (a : List DC) : Out := Run cfg 3 ⟨ol 44 :: [], []⟩ a
noncomputable def r_laws_szDefS (a : List DC) : Out := Run cfg 5 ⟨ol 44 :: oi :: [], []⟩ a
noncomputable def r_laws_toDefS (a : List DC) : Out := Run cfg 7 ⟨ol 44 :: [], []⟩ a
noncomputable def r_spec_SortDefs (a : List DC) : Out := Run cfg 6 ⟨ol 50 :: [], []⟩ a
noncomputable def r_impl_SortDefs (a : List DC) : Out := Run cfg 8 ⟨ol 50 :: [], []⟩ a
noncomputable def r_laws_eqDefS (a : List DC) : Out := Run cfg 9 ⟨ol 50 :: ol 50 :: [], []⟩ a
noncomputable def r_laws_heldDefS (a : List DC) : Out := Run cfg 11 ⟨ol 50 :: oi :: [], []⟩ a
noncomputable def r_laws_szDef (a : List DC) : Out := Run cfg 17 ⟨.agg [.i .i64, .b, .s, .s, .sl 9, .sl 118, .sl 124, .sl 127, .sl 129, .b, .sl 133] :: oi :: [], []⟩ a
noncomputable def r_laws_toDef (a : List DC) : Out := Run cfg 19 ⟨.agg [.i .i64, .b, .s, .s, .sl 9, .sl 118, .sl 124, .sl 127, .sl 129, .b, .sl 133] :: [], []⟩ a
noncomputable def r_spec_l13Copy (a : List DC) : Out := Run cfg 18 ⟨.agg [.i .i64, .b, .s, .s, .sl 9, .sl 97, .sl 102, .sl 105, .sl 68, .b, .sl 108] :: [], []⟩ a
noncomputable def r_impl_cloneDefs (a : List DC) : Out := Run cfg 20 ⟨ol 50 :: [], []⟩ a
noncomputable def r_laws_eqDef (a : List DC) : Out := Run cfg 24 ⟨.agg [.i .i64, .b, .s, .s, .sl 9, .sl 97, .sl 102, .sl 105, .sl 68, .b, .sl 108] :: .agg [.i .i64, .b, .s, .s, .sl 9, .sl 97, .sl 102, .sl 105, .sl 68, .b, .sl 108] :: [], []⟩ a
noncomputable def r_laws_markText (a : List DC) : Out := Run cfg 25 ⟨oi :: [], []⟩ a
noncomputable def r_laws_heldStringS (a : List DC) : Out := Run cfg 32 ⟨ol 9 :: oi :: [], []⟩ a
noncomputable def r_laws_heldFieldDefS (a : List DC) : Out := Run cfg 33 ⟨ol 97 :: oi :: [], []⟩ a
noncomputable def r_laws_heldInDefS (a : List DC) : Out := Run cfg 34 ⟨ol 102 :: oi :: [], []⟩ a
noncomputable def r_laws_heldEnumDefS (a : List DC) : Out := Run cfg 35 ⟨ol 105 :: oi :: [], []⟩ a
noncomputable def r_laws_heldRootS (a : List DC) : Out := Run cfg 36 ⟨ol 68 :: oi :: [], []⟩ a
noncomputable def r_laws_heldDirS (a : List DC) : Out := Run cfg 37 ⟨ol 108 :: oi :: [], []⟩ a
noncomputable def r_laws_szStringS (a : List DC) : Out := Run cfg 44 ⟨ol 9 :: oi :: [], []⟩ a
noncomputable def r_laws_szFieldDefS (a : List DC) : Out := Run cfg 45 ⟨ol 118 :: oi :: [], []⟩ a
noncomputable def r_laws_szInDefS (a : List DC) : Out := Run cfg 46 ⟨ol 124 :: oi :: [], []⟩ a
noncomputable def r_laws_szEnumDefS (a : List DC) : Out := Run cfg 47 ⟨ol 127 :: oi :: [], []⟩ a
noncomputable def r_laws_szRootS (a : List DC) : Out := Run cfg 48 ⟨ol 129 :: oi :: [], []⟩ a
noncomputable def r_laws_szDirS (a : List DC) : Out := Run cfg 49 ⟨ol 133 :: oi :: [], []⟩ a
noncomputable def r_laws_toStringS (a : List DC) : Out := Run cfg 54 ⟨ol 9 :: [], []⟩ a
noncomputable def r_laws_toFieldDefS (a : List DC) : Out := Run cfg 55 ⟨ol 118 :: [], []⟩ a
noncomputable def r_laws_toInDefS (a : List DC) : Out := Run cfg 56 ⟨ol 124 :: [], []⟩ a
noncomputable def r_laws_toEnumDefS (a : List DC) : Out := Run cfg 57 ⟨ol 127 :: [], []⟩ a
noncomputable def r_laws_toRootS (a : List DC) : Out := Run cfg 58 ⟨ol 129 :: [], []⟩ a
noncomputable def r_laws_toDirS (a : List DC) : Out := Run cfg 59 ⟨ol 133 :: [], []⟩ a
noncomputable def r_spec_l13CopyFields (a : List DC) : Out := Run cfg 50 ⟨ol 97 :: [], []⟩ a
noncomputable def r_spec_l13CopyIns (a : List DC) : Out := Run cfg 51 ⟨ol 102 :: [], []⟩ a
noncomputable def r_spec_l13CopyValues (a : List DC) : Out := Run cfg 52 ⟨ol 105 :: [], []⟩ a
noncomputable def r_spec_l10Dirs (a : List DC) : Out := Run cfg 53 ⟨ol 108 :: [], []⟩ a
noncomputable def r_impl_cloneDef (a : List DC) : Out := Run cfg 60 ⟨.agg [.i .i64, .b, .s, .s, .sl 9, .sl 97, .sl 102, .sl 105, .sl 68, .b, .sl 108] :: [], []⟩ a
noncomputable def r_laws_eqStringS (a : List DC) : Out := Run cfg 63 ⟨ol 9 :: ol 9 :: [], []⟩ a
noncomputable def r_laws_eqFieldDefS (a : List DC) : Out := Run cfg 64 ⟨ol 97 :: ol 97 :: [], []⟩ a
noncomputable def r_laws_eqInDefS (a : List DC) : Out := Run cfg 65 ⟨ol 102 :: ol 102 :: [], []⟩ a
noncomputable def r_laws_eqEnumDefS (a : List DC) : Out := Run cfg 66 ⟨ol 105 :: ol 105 :: [], []⟩ a
noncomputable def r_laws_eqRootS (a : List DC) : Out := Run cfg 43 ⟨ol 68 :: ol 68 :: [], []⟩ a
noncomputable def r_laws_eqDirS (a : List DC) : Out := Run cfg 67 ⟨ol 108 :: ol 108 :: [], []⟩ a
noncomputable def r_laws_heldValueS (a : List DC) : Out := Run cfg 70 ⟨ol 100 :: oi :: [], []⟩ a
noncomputable def r_laws_heldArgS (a : List DC) : Out := Run cfg 71 ⟨ol 149 :: oi :: [], []⟩ a
noncomputable def r_laws_szFieldDef (a : List DC) : Out := Run cfg 80 ⟨.agg [.s, .s, .sl 124, .s, .s, .sl 133] :: oi :: [], []⟩ a
noncomputable def r_laws_szInDef (a : List DC) : Out := Run cfg 81 ⟨.agg [.s, .s, .s, .s, .b, .i .i64, .s, .sl 122, .sl 9, .sl 133] :: oi :: [], []⟩ a
noncomputable def r_laws_szEnumDef (a : List DC) : Out := Run cfg 82 ⟨.agg [.s, .s, .sl 133] :: oi :: [], []⟩ a
noncomputable def r_laws_szRoot (a : List DC) : Out := Run cfg 83 ⟨.agg [.i .i64, .s] :: oi :: [], []⟩ a
noncomputable def r_laws_szDir (a : List DC) : Out := Run cfg 84 ⟨.agg [.s, .sl 168] :: oi :: [], []⟩ a
noncomputable def r_laws_toFieldDef (a : List DC) : Out := Run cfg 87 ⟨.agg [.s, .s, .sl 124, .s, .s, .sl 133] :: [], []⟩ a
noncomputable def r_laws_toInDef (a : List DC) : Out := Run cfg 88 ⟨.agg [.s, .s, .s, .s, .b, .i .i64, .s, .sl 122, .sl 9, .sl 133] :: [], []⟩ a
noncomputable def r_laws_toEnumDef (a : List DC) : Out := Run cfg 89 ⟨.agg [.s, .s, .sl 133] :: [], []⟩ a
noncomputable def r_laws_toRoot (a : List DC) : Out := Run cfg 90 ⟨.agg [.i .i64, .s] :: [], []⟩ a
noncomputable def r_laws_toDir (a : List DC) : Out := Run cfg 91 ⟨.agg [.s, .sl 168] :: [], []⟩ a
noncomputable def r_spec_l07Copy (a : List DC) : Out := Run cfg 85 ⟨.agg [.i .i64, .s, .sl 100, .sl 9] :: [], []⟩ a
noncomputable def r_spec_l10Args (a : List DC) : Out := Run cfg 86 ⟨ol 149 :: [], []⟩ a
noncomputable def r_slices_Clone_string (a : List DC) : Out := Run cfg 92 h_slices_Clone_string a
noncomputable def r_impl_cloneFields (a : List DC) : Out := Run cfg 93 ⟨ol 97 :: [], []⟩ a
noncomputable def r_impl_cloneIns (a : List DC) : Out := Run cfg 94 ⟨ol 102 :: [], []⟩ a
noncomputable def r_impl_cloneEnums (a : List DC) : Out := Run cfg 95 ⟨ol 105 :: [], []⟩ a
noncomputable def r_slices_Clone_impl_Root (a : List DC) : Out := Run cfg 96 h_slices_Clone_impl_Root a
noncomputable def r_impl_cloneDirs (a : List DC) : Out := Run cfg 97 ⟨ol 108 :: [], []⟩ a
noncomputable def r_laws_eqFieldDef (a : List DC) : Out := Run cfg 101 ⟨.agg [.s, .s, .sl 102, .s, .s, .sl 108] :: .agg [.s, .s, .sl 102, .s, .s, .sl 108] :: [], []⟩ a
noncomputable def r_laws_eqInDef (a : List DC) : Out := Run cfg 102 ⟨.agg [.s, .s, .s, .s, .b, .i .i64, .s, .sl 100, .sl 9, .sl 108] :: .agg [.s, .s, .s, .s, .b, .i .i64, .s, .sl 100, .sl 9, .sl 108] :: [], []⟩ a
noncomputable def r_laws_eqEnumDef (a : List DC) : Out := Run cfg 103 ⟨.agg [.s, .s, .sl 108] :: .agg [.s, .s, .sl 108] :: [], []⟩ a
noncomputable def r_laws_eqRoot (a : List DC) : Out := Run cfg 79 ⟨.agg [.i .i64, .s] :: .agg [.i .i64, .s] :: [], []⟩ a
noncomputable def r_laws_eqDir (a : List DC) : Out := Run cfg 104 ⟨.agg [.s, .sl 149] :: .agg [.s, .sl 149] :: [], []⟩ a
noncomputable def r_laws_szType (a : List DC) : Out := Run cfg 108 ⟨.agg [.s, .s] :: oi :: [], []⟩ a
noncomputable def r_laws_szValue (a : List DC) : Out := Run cfg 109 ⟨.agg [.i .i64, .s, .sl 122, .sl 9] :: oi :: [], []⟩ a
noncomputable def r_laws_szArgS (a : List DC) : Out := Run cfg 110 ⟨ol 168 :: oi :: [], []⟩ a
noncomputable def r_laws_toType (a : List DC) : Out := Run cfg 111 ⟨.agg [.s, .s] :: [], []⟩ a
noncomputable def r_laws_toValue (a : List DC) : Out := Run cfg 112 ⟨.agg [.i .i64, .s, .sl 122, .sl 9] :: [], []⟩ a
noncomputable def r_laws_toArgS (a : List DC) : Out := Run cfg 113 ⟨ol 168 :: [], []⟩ a
noncomputable def r_impl_cloneValue (a : List DC) : Out := Run cfg 114 ⟨.agg [.i .i64, .s, .sl 100, .sl 9] :: [], []⟩ a
noncomputable def r_impl_cloneArgs (a : List DC) : Out := Run cfg 115 ⟨ol 149 :: [], []⟩ a
noncomputable def r_laws_eqType (a : List DC) : Out := Run cfg 117 ⟨.agg [.s, .s] :: .agg [.s, .s] :: [], []⟩ a
noncomputable def r_laws_eqValue (a : List DC) : Out := Run cfg 118 ⟨.agg [.i .i64, .s, .sl 100, .sl 9] :: .agg [.i .i64, .s, .sl 100, .sl 9] :: [], []⟩ a
noncomputable def r_laws_eqArgS (a : List DC) : Out := Run cfg 119 ⟨ol 149 :: ol 149 :: [], []⟩ a
noncomputable def r_laws_szValueS (a : List DC) : Out := Run cfg 123 ⟨ol 122 :: oi :: [], []⟩ a
noncomputable def r_laws_szArg (a : List DC) : Out := Run cfg 124 ⟨.agg [.s, .i .i64, .s, .sl 122, .sl 9] :: oi :: [], []⟩ a
noncomputable def r_laws_toValueS (a : List DC) : Out := Run cfg 125 ⟨ol 122 :: [], []⟩ a
noncomputable def r_laws_toArg (a : List DC) : Out := Run cfg 126 ⟨.agg [.s, .i .i64, .s, .sl 122, .sl 9] :: [], []⟩ a
noncomputable def r_laws_eqValueS (a : List DC) : Out := Run cfg 128 ⟨ol 100 :: ol 100 :: [], []⟩ a
noncomputable def r_laws_eqArg (a : List DC) : Out := Run cfg 129 ⟨.agg [.s, .i .i64, .s, .sl 100, .sl 9] :: .agg [.s, .i .i64, .s, .sl 100, .sl 9] :: [], []⟩ a
noncomputable def E_laws_FnExactSortDefs (a : List DC) : Out :=
 (r_laws_szDefS [.sl ((a.getD 0 d0).ll), .i (1048576 : Int)]).bindR fun r1 =>
 if (decide ((r1.getD 0 d0).ii < (0 : Int))) = true then
 .ret [.b true]
 else
 (r_laws_toDefS [.sl ((a.getD 0 d0).ll)]).bindR fun r2 =>
 (r_spec_SortDefs [.sl ((r2.getD 0 d0).ll)]).bindR fun r3 =>
 (r_laws_toDefS [.sl ((a.getD 0 d0).ll)]).bindR fun r4 =>
 (r_impl_SortDefs [.sl ((r4.getD 0 d0).ll)]).bindR fun r5 =>
 (r_laws_eqDefS [.sl ((r5.getD 0 d0).ll), .sl ((r3.getD 0 d0).ll)]).bindR fun r6 =>
 if (!((r6.getD 0 d0).bb)) = true then
 .ret [.b false]
 else
 (r_laws_toDefS [.sl ((a.getD 0 d0).ll)]).bindR fun r7 =>
 (r_laws_eqDefS [.sl ((r4.getD 0 d0).ll), .sl ((r7.getD 0 d0).ll)]).bindR fun r8 =>
 if (!((r8.getD 0 d0).bb)) = true then
 .ret [.b false]
 else
 markM Out.fail (mkV mT mTab 10 [(r4.getD 0 d0).ll] (1 : Int)) 1 fun l9 k10 =>
 Out.andThen (if (decide (k10 < (0 : Int))) = true then
 .norm [.sl ((a.getD 0 d0).ll), .sl ((r3.getD 0 d0).ll), .sl ((r5.getD 0 d0).ll), .b true]
 else
 (r_laws_eqDefS [.sl ((r5.getD 0 d0).ll), .sl ((r3.getD 0 d0).ll)]).bindR fun r11 =>
 .norm [.sl ((a.getD 0 d0).ll), .sl ((r3.getD 0 d0).ll), .sl ((r5.getD 0 d0).ll), .b (!((r11.getD 0 d0).bb))]) fun v12 =>
 if (v12.getD 3 d0).bb = true then
 .ret [.b false]
 else
 markM Out.fail (mkV mT mTab 10 [(v12.getD 2 d0).ll] (1 : Int)) 1 fun l13 k14 =>
 (r_laws_heldDefS [.sl (l13.getD 0 []), .i (1 : Int)]).bindR fun r15 =>
 if (decide ((r15.getD 0 d0).ii < (0 : Int))) = true then
 .ret [.b false]
 else
 if ((r15.getD 0 d0).ii != k14) = true then
 .ret [.b false]
 else
 (r_laws_toDefS [.sl ((v12.getD 0 d0).ll)]).bindR fun r16 =>
 (r_impl_SortDefs [.sl ((r16.getD 0 d0).ll)]).bindR fun r17 =>
 (r_laws_eqDefS [.sl ((r17.getD 0 d0).ll), .sl ((v12.getD 1 d0).ll)]).bindR fun r18 =>
 if (!((r18.getD 0 d0).bb)) = true then
 .ret [.b false]
 else
 (r_laws_heldDefS [.sl (l13.getD 0 []), .i (1 : Int)]).bindR fun r19 =>
 if (decide ((r19.getD 0 d0).ii < (0 : Int))) = true then
 .ret [.b false]
 else
 if ((r19.getD 0 d0).ii != k14) = true then
 .ret [.b false]
 else
 .ret [.b true]
theorem eq_laws_FnExactSortDefs a : r_laws_FnExactSortDefs a = E_laws_FnExactSortDefs a := (Run_eq cfg 3 _ a).trans (by kernel_rfl)
noncomputable def E_laws_szDefSL1 : List DC → Out := fun v1 =>
 if (decide ((v1.getD 2 d0).ii < (((v1.getD 0 d0).ll).length : Int))) = true then
 Out.andThenB (if 44 = 44 ∧ 0 ≤ (v1.getD 2 d0).ii ∧ (v1.getD 2 d0).ii < (((v1.getD 0 d0).ll).length : Int) then
 (r_laws_szDef [.i (((((v1.getD 0 d0).ll).getD ((v1.getD 2 d0).ii).toNat []).getD 0 d0).ii), .b (((((v1.getD 0 d0).ll).getD ((v1.getD 2 d0).ii).toNat []).getD 1 d0).bb), .s (((((v1.getD 0 d0).ll).getD ((v1.getD 2 d0).ii).toNat []).getD 2 d0).ss), .s (((((v1.getD 0 d0).ll).getD ((v1.getD 2 d0).ii).toNat []).getD 3 d0).ss), .sl (((((v1.getD 0 d0).ll).getD ((v1.getD 2 d0).ii).toNat []).getD 4 d0).ll), .sl (((((v1.getD 0 d0).ll).getD ((v1.getD 2 d0).ii).toNat []).getD 5 d0).ll), .sl (((((v1.getD 0 d0).ll).getD ((v1.getD 2 d0).ii).toNat []).getD 6 d0).ll), .sl (((((v1.getD 0 d0).ll).getD ((v1.getD 2 d0).ii).toNat []).getD 7 d0).ll), .sl (((((v1.getD 0 d0).ll).getD ((v1.getD 2 d0).ii).toNat []).getD 8 d0).ll), .b (((((v1.getD 0 d0).ll).getD ((v1.getD 2 d0).ii).toNat []).getD 9 d0).bb), .sl (((((v1.getD 0 d0).ll).getD ((v1.getD 2 d0).ii).toNat []).getD 10 d0).ll), .i ((v1.getD 1 d0).ii)]).bindR fun r2 =>
 if (decide ((r2.getD 0 d0).ii < (0 : Int))) = true then
 .ret [.i (-1 : Int)]
 else
 .norm [.sl ((v1.getD 0 d0).ll), .i ((r2.getD 0 d0).ii), .i ((v1.getD 2 d0).ii)]
 else
 .fail) 1 fun v3 =>
 .norm [.sl ((v3.getD 0 d0).ll), .i ((v3.getD 1 d0).ii), .i (IntKind.i64.wrap ((v3.getD 2 d0).ii + (1 : Int)))]
 else
 .ex 0 [.i ((v1.getD 1 d0).ii)]
noncomputable def E_laws_szDefS (a : List DC) : Out :=
 if (decide ((IntKind.i64.wrap ((a.getD 1 d0).ii - (((a.getD 0 d0).ll).length : Int))) < (0 : Int))) = true then
 .ret [.i (-1 : Int)]
 else
 Out.andThenB (Loop E_laws_szDefSL1 [.sl ((a.getD 0 d0).ll), .i (IntKind.i64.wrap ((a.getD 1 d0).ii - (((a.getD 0 d0).ll).length : Int))), .i (0 : Int)]) 0 fun v4 =>
 .ret [.i ((v4.getD 0 d0).ii)]
theorem eq_laws_szDefS a : r_laws_szDefS a = E_laws_szDefS a := (Run_eq cfg 5 _ a).trans (by kernel_rfl)
noncomputable def E_laws_toDefSL1 : List DC → Out := fun v1 =>
 if (decide ((v1.getD 2 d0).ii < (((v1.getD 0 d0).ll).length : Int))) = true then
 Out.andThenB (if 44 = 44 ∧ 0 ≤ (v1.getD 2 d0).ii ∧ (v1.getD 2 d0).ii < (((v1.getD 0 d0).ll).length : Int) then
 (r_laws_toDef [.i (((((v1.getD 0 d0).ll).getD ((v1.getD 2 d0).ii).toNat []).getD 0 d0).ii), .b (((((v1.getD 0 d0).ll).getD ((v1.getD 2 d0).ii).toNat []).getD 1 d0).bb), .s (((((v1.getD 0 d0).ll).getD ((v1.getD 2 d0).ii).toNat []).getD 2 d0).ss), .s (((((v1.getD 0 d0).ll).getD ((v1.getD 2 d0).ii).toNat []).getD 3 d0).ss), .sl (((((v1.getD 0 d0).ll).getD ((v1.getD 2 d0).ii).toNat []).getD 4 d0).ll), .sl (((((v1.getD 0 d0).ll).getD ((v1.getD 2 d0).ii).toNat []).getD 5 d0).ll), .sl (((((v1.getD 0 d0).ll).getD ((v1.getD 2 d0).ii).toNat []).getD 6 d0).ll), .sl (((((v1.getD 0 d0).ll).getD ((v1.getD 2 d0).ii).toNat []).getD 7 d0).ll), .sl (((((v1.getD 0 d0).ll).getD ((v1.getD 2 d0).ii).toNat []).getD 8 d0).ll), .b (((((v1.getD 0 d0).ll).getD ((v1.getD 2 d0).ii).toNat []).getD 9 d0).bb), .sl (((((v1.getD 0 d0).ll).getD ((v1.getD 2 d0).ii).toNat []).getD 10 d0).ll)]).bindR fun r2 =>
 if 50 = 50 ∧ 0 ≤ (v1.getD 2 d0).ii ∧ (v1.getD 2 d0).ii < (((v1.getD 1 d0).ll).length : Int) then
 .norm [.sl ((v1.getD 0 d0).ll), .sl (((v1.getD 1 d0).ll).set (((v1.getD 2 d0).ii).toNat) (setRunD (((v1.getD 1 d0).ll).getD (((v1.getD 2 d0).ii).toNat) []) 0 [DC.i ((r2.getD 0 d0).ii), DC.b ((r2.getD 1 d0).bb), DC.s ((r2.getD 2 d0).ss), DC.s ((r2.getD 3 d0).ss), DC.sl ((r2.getD 4 d0).ll), DC.sl ((r2.getD 5 d0).ll), DC.sl ((r2.getD 6 d0).ll), DC.sl ((r2.getD 7 d0).ll), DC.sl ((r2.getD 8 d0).ll), DC.b ((r2.getD 9 d0).bb), DC.sl ((r2.getD 10 d0).ll)])), .i ((v1.getD 2 d0).ii)]
 else
 .fail
 else
 .fail) 1 fun v3 =>
 .norm [.sl ((v3.getD 0 d0).ll), .sl ((v3.getD 1 d0).ll), .i (IntKind.i64.wrap ((v3.getD 2 d0).ii + (1 : Int)))]
 else
 .ex 0 [.sl ((v1.getD 1 d0).ll)]
noncomputable def E_laws_toDefS (a : List DC) : Out :=
 if 0 ≤ (((a.getD 0 d0).ll).length : Int) ∧ (((a.getD 0 d0).ll).length : Int) < (LIM : Int) ∧ (((a.getD 0 d0).ll).length : Int) = (((a.getD 0 d0).ll).length : Int) ∧ 200 ≤ 1024 ∧ 0 < 11 ∧ dp 50 = false then
 Out.andThenB (Loop E_laws_toDefSL1 [.sl ((a.getD 0 d0).ll), .sl (List.replicate (((a.getD 0 d0).ll).length : Int).toNat [DC.i 0, DC.b false, DC.s [], DC.s [], DC.sl [], DC.sl [], DC.sl [], DC.sl [], DC.sl [], DC.b false, DC.sl []]), .i (0 : Int)]) 0 fun v4 =>
 .ret [.sl ((v4.getD 0 d0).ll)]
 else
 .fail
theorem eq_laws_toDefS a : r_laws_toDefS a = E_laws_toDefS a := (Run_eq cfg 7 _ a).trans (by kernel_rfl)
noncomputable def E_spec_SortDefsL1 : List DC → Out := fun v1 =>
 if (decide ((v1.getD 2 d0).ii < (((v1.getD 0 d0).ll).length : Int))) = true then
 Out.andThenB (if 50 = 50 ∧ 0 ≤ (v1.getD 2 d0).ii ∧ (v1.getD 2 d0).ii < (((v1.getD 0 d0).ll).length : Int) then
 (r_spec_l13Copy [.i (((((v1.getD 0 d0).ll).getD ((v1.getD 2 d0).ii).toNat []).getD 0 d0).ii), .b (((((v1.getD 0 d0).ll).getD ((v1.getD 2 d0).ii).toNat []).getD 1 d0).bb), .s (((((v1.getD 0 d0).ll).getD ((v1.getD 2 d0).ii).toNat []).getD 2 d0).ss), .s (((((v1.getD 0 d0).ll).getD ((v1.getD 2 d0).ii).toNat []).getD 3 d0).ss), .sl (((((v1.getD 0 d0).ll).getD ((v1.getD 2 d0).ii).toNat []).getD 4 d0).ll), .sl (((((v1.getD 0 d0).ll).getD ((v1.getD 2 d0).ii).toNat []).getD 5 d0).ll), .sl (((((v1.getD 0 d0).ll).getD ((v1.getD 2 d0).ii).toNat []).getD 6 d0).ll), .sl (((((v1.getD 0 d0).ll).getD ((v1.getD 2 d0).ii).toNat []).getD 7 d0).ll), .sl (((((v1.getD 0 d0).ll).getD ((v1.getD 2 d0).ii).toNat []).getD 8 d0).ll), .b (((((v1.getD 0 d0).ll).getD ((v1.getD 2 d0).ii).toNat []).getD 9 d0).bb), .sl (((((v1.getD 0 d0).ll).getD ((v1.getD 2 d0).ii).toNat []).getD 10 d0).ll)]).bindR fun r2 =>
 if ((v1.getD 1 d0).ll).length + [[DC.i ((r2.getD 0 d0).ii), DC.b ((r2.getD 1 d0).bb), DC.s ((r2.getD 2 d0).ss), DC.s ((r2.getD 3 d0).ss), DC.sl ((r2.getD 4 d0).ll), DC.sl ((r2.getD 5 d0).ll), DC.sl ((r2.getD 6 d0).ll), DC.sl ((r2.getD 7 d0).ll), DC.sl ((r2.getD 8 d0).ll), DC.b ((r2.getD 9 d0).bb), DC.sl ((r2.getD 10 d0).ll)]].length < LIM then
 .norm [.sl ((v1.getD 0 d0).ll), .sl (((v1.getD 1 d0).ll) ++ [[DC.i ((r2.getD 0 d0).ii), DC.b ((r2.getD 1 d0).bb), DC.s ((r2.getD 2 d0).ss), DC.s ((r2.getD 3 d0).ss), DC.sl ((r2.getD 4 d0).ll), DC.sl ((r2.getD 5 d0).ll), DC.sl ((r2.getD 6 d0).ll), DC.sl ((r2.getD 7 d0).ll), DC.sl ((r2.getD 8 d0).ll), DC.b ((r2.getD 9 d0).bb), DC.sl ((r2.getD 10 d0).ll)]]), .i ((v1.getD 2 d0).ii)]
 else
 .fail
 else
 .fail) 1 fun v3 =>
 .norm [.sl ((v3.getD 0 d0).ll), .sl ((v3.getD 1 d0).ll), .i (IntKind.i64.wrap ((v3.getD 2 d0).ii + (1 : Int)))]
 else
 .ex 0 [.sl ((v1.getD 1 d0).ll)]
noncomputable def E_spec_SortDefsL2 : List DC → Out := fun v7 =>
 Out.andThen (if (decide ((v7.getD 3 d0).ii < (((v7.getD 0 d0).ll).length : Int))) = true then
 .norm [.sl ((v7.getD 0 d0).ll), .sl ((v7.getD 1 d0).ll), .sl ((v7.getD 2 d0).ll), .i ((v7.getD 3 d0).ii), .i ((v7.getD 4 d0).ii), .b true]
 else
 .norm [.sl ((v7.getD 0 d0).ll), .sl ((v7.getD 1 d0).ll), .sl ((v7.getD 2 d0).ll), .i ((v7.getD 3 d0).ii), .i ((v7.getD 4 d0).ii), .b (decide ((v7.getD 4 d0).ii < (((v7.getD 1 d0).ll).length : Int)))]) fun v8 =>
 if (v8.getD 5 d0).bb = true then
 Out.andThenB (Out.andThen (if (decide ((v8.getD 4 d0).ii ≥ (((v8.getD 1 d0).ll).length : Int))) = true then
 .norm [.sl ((v8.getD 0 d0).ll), .sl ((v8.getD 1 d0).ll), .sl ((v8.getD 2 d0).ll), .i ((v8.getD 3 d0).ii), .i ((v8.getD 4 d0).ii), .b true]
 else
 if (decide ((v8.getD 3 d0).ii < (((v8.getD 0 d0).ll).length : Int))) = true then
 if 50 = 50 ∧ 0 ≤ (v8.getD 3 d0).ii ∧ (v8.getD 3 d0).ii < (((v8.getD 0 d0).ll).length : Int) then
 if 50 = 50 ∧ 0 ≤ (v8.getD 4 d0).ii ∧ (v8.getD 4 d0).ii < (((v8.getD 1 d0).ll).length : Int) then
 .norm [.sl ((v8.getD 0 d0).ll), .sl ((v8.getD 1 d0).ll), .sl ((v8.getD 2 d0).ll), .i ((v8.getD 3 d0).ii), .i ((v8.getD 4 d0).ii), .b (Op.bytesLess (((((v8.getD 0 d0).ll).getD ((v8.getD 3 d0).ii).toNat []).getD 3 d0).ss) (((((v8.getD 1 d0).ll).getD ((v8.getD 4 d0).ii).toNat []).getD 3 d0).ss) || ((((v8.getD 0 d0).ll).getD ((v8.getD 3 d0).ii).toNat []).getD 3 d0).ss == ((((v8.getD 1 d0).ll).getD ((v8.getD 4 d0).ii).toNat []).getD 3 d0).ss)]
 else
 .fail
 else
 .fail
 else
 .norm [.sl ((v8.getD 0 d0).ll), .sl ((v8.getD 1 d0).ll), .sl ((v8.getD 2 d0).ll), .i ((v8.getD 3 d0).ii), .i ((v8.getD 4 d0).ii), .b false]) fun v9 =>
 Out.andThen (if (v9.getD 5 d0).bb = true then
 if 50 = 50 ∧ 0 ≤ (v9.getD 3 d0).ii ∧ (v9.getD 3 d0).ii < (((v9.getD 0 d0).ll).length : Int) then
 if ((v9.getD 2 d0).ll).length + [[DC.i (((((v9.getD 0 d0).ll).getD ((v9.getD 3 d0).ii).toNat []).getD 0 d0).ii), DC.b (((((v9.getD 0 d0).ll).getD ((v9.getD 3 d0).ii).toNat []).getD 1 d0).bb), DC.s (((((v9.getD 0 d0).ll).getD ((v9.getD 3 d0).ii).toNat []).getD 2 d0).ss), DC.s (((((v9.getD 0 d0).ll).getD ((v9.getD 3 d0).ii).toNat []).getD 3 d0).ss), DC.sl (((((v9.getD 0 d0).ll).getD ((v9.getD 3 d0).ii).toNat []).getD 4 d0).ll), DC.sl (((((v9.getD 0 d0).ll).getD ((v9.getD 3 d0).ii).toNat []).getD 5 d0).ll), DC.sl (((((v9.getD 0 d0).ll).getD ((v9.getD 3 d0).ii).toNat []).getD 6 d0).ll), DC.sl (((((v9.getD 0 d0).ll).getD ((v9.getD 3 d0).ii).toNat []).getD 7 d0).ll), DC.sl (((((v9.getD 0 d0).ll).getD ((v9.getD 3 d0).ii).toNat []).getD 8 d0).ll), DC.b (((((v9.getD 0 d0).ll).getD ((v9.getD 3 d0).ii).toNat []).getD 9 d0).bb), DC.sl (((((v9.getD 0 d0).ll).getD ((v9.getD 3 d0).ii).toNat []).getD 10 d0).ll)]].length < LIM then
 .norm [.sl ((v9.getD 0 d0).ll), .sl ((v9.getD 1 d0).ll), .sl (((v9.getD 2 d0).ll) ++ [[DC.i (((((v9.getD 0 d0).ll).getD ((v9.getD 3 d0).ii).toNat []).getD 0 d0).ii), DC.b (((((v9.getD 0 d0).ll).getD ((v9.getD 3 d0).ii).toNat []).getD 1 d0).bb), DC.s (((((v9.getD 0 d0).ll).getD ((v9.getD 3 d0).ii).toNat []).getD 2 d0).ss), DC.s (((((v9.getD 0 d0).ll).getD ((v9.getD 3 d0).ii).toNat []).getD 3 d0).ss), DC.sl (((((v9.getD 0 d0).ll).getD ((v9.getD 3 d0).ii).toNat []).getD 4 d0).ll), DC.sl (((((v9.getD 0 d0).ll).getD ((v9.getD 3 d0).ii).toNat []).getD 5 d0).ll), DC.sl (((((v9.getD 0 d0).ll).getD ((v9.getD 3 d0).ii).toNat []).getD 6 d0).ll), DC.sl (((((v9.getD 0 d0).ll).getD ((v9.getD 3 d0).ii).toNat []).getD 7 d0).ll), DC.sl (((((v9.getD 0 d0).ll).getD ((v9.getD 3 d0).ii).toNat []).getD 8 d0).ll), DC.b (((((v9.getD 0 d0).ll).getD ((v9.getD 3 d0).ii).toNat []).getD 9 d0).bb), DC.sl (((((v9.getD 0 d0).ll).getD ((v9.getD 3 d0).ii).toNat []).getD 10 d0).ll)]]), .i (IntKind.i64.wrap ((v9.getD 3 d0).ii + (1 : Int))), .i ((v9.getD 4 d0).ii)]
 else
 .fail
 else
 .fail
 else
 if 50 = 50 ∧ 0 ≤ (v9.getD 4 d0).ii ∧ (v9.getD 4 d0).ii < (((v9.getD 1 d0).ll).length : Int) then
 if ((v9.getD 2 d0).ll).length + [[DC.i (((((v9.getD 1 d0).ll).getD ((v9.getD 4 d0).ii).toNat []).getD 0 d0).ii), DC.b (((((v9.getD 1 d0).ll).getD ((v9.getD 4 d0).ii).toNat []).getD 1 d0).bb), DC.s (((((v9.getD 1 d0).ll).getD ((v9.getD 4 d0).ii).toNat []).getD 2 d0).ss), DC.s (((((v9.getD 1 d0).ll).getD ((v9.getD 4 d0).ii).toNat []).getD 3 d0).ss), DC.sl (((((v9.getD 1 d0).ll).getD ((v9.getD 4 d0).ii).toNat []).getD 4 d0).ll), DC.sl (((((v9.getD 1 d0).ll).getD ((v9.getD 4 d0).ii).toNat []).getD 5 d0).ll), DC.sl (((((v9.getD 1 d0).ll).getD ((v9.getD 4 d0).ii).toNat []).getD 6 d0).ll), DC.sl (((((v9.getD 1 d0).ll).getD ((v9.getD 4 d0).ii).toNat []).getD 7 d0).ll), DC.sl (((((v9.getD 1 d0).ll).getD ((v9.getD 4 d0).ii).toNat []).getD 8 d0).ll), DC.b (((((v9.getD 1 d0).ll).getD ((v9.getD 4 d0).ii).toNat []).getD 9 d0).bb), DC.sl (((((v9.getD 1 d0).ll).getD ((v9.getD 4 d0).ii).toNat []).getD 10 d0).ll)]].length < LIM then
 .norm [.sl ((v9.getD 0 d0).ll), .sl ((v9.getD 1 d0).ll), .sl (((v9.getD 2 d0).ll) ++ [[DC.i (((((v9.getD 1 d0).ll).getD ((v9.getD 4 d0).ii).toNat []).getD 0 d0).ii), DC.b (((((v9.getD 1 d0).ll).getD ((v9.getD 4 d0).ii).toNat []).getD 1 d0).bb), DC.s (((((v9.getD 1 d0).ll).getD ((v9.getD 4 d0).ii).toNat []).getD 2 d0).ss), DC.s (((((v9.getD 1 d0).ll).getD ((v9.getD 4 d0).ii).toNat []).getD 3 d0).ss), DC.sl (((((v9.getD 1 d0).ll).getD ((v9.getD 4 d0).ii).toNat []).getD 4 d0).ll), DC.sl (((((v9.getD 1 d0).ll).getD ((v9.getD 4 d0).ii).toNat []).getD 5 d0).ll), DC.sl (((((v9.getD 1 d0).ll).getD ((v9.getD 4 d0).ii).toNat []).getD 6 d0).ll), DC.sl (((((v9.getD 1 d0).ll).getD ((v9.getD 4 d0).ii).toNat []).getD 7 d0).ll), DC.sl (((((v9.getD 1 d0).ll).getD ((v9.getD 4 d0).ii).toNat []).getD 8 d0).ll), DC.b (((((v9.getD 1 d0).ll).getD ((v9.getD 4 d0).ii).toNat []).getD 9 d0).bb), DC.sl (((((v9.getD 1 d0).ll).getD ((v9.getD 4 d0).ii).toNat []).getD 10 d0).ll)]]), .i ((v9.getD 3 d0).ii), .i (IntKind.i64.wrap ((v9.getD 4 d0).ii + (1 : Int)))]
 else
 .fail
 else
 .fail) fun v10 =>
 .norm [.sl ((v10.getD 0 d0).ll), .sl ((v10.getD 1 d0).ll), .sl ((v10.getD 2 d0).ll), .i ((v10.getD 3 d0).ii), .i ((v10.getD 4 d0).ii)]) 3 fun v11 =>
 .norm [.sl ((v11.getD 0 d0).ll), .sl ((v11.getD 1 d0).ll), .sl ((v11.getD 2 d0).ll), .i ((v11.getD 3 d0).ii), .i ((v11.getD 4 d0).ii)]
 else
 .ex 2 [.sl ((v8.getD 2 d0).ll)]
noncomputable def E_spec_SortDefs (a : List DC) : Out :=
 if (decide ((((a.getD 0 d0).ll).length : Int) < (2 : Int))) = true then
 Out.andThenB (Loop E_spec_SortDefsL1 [.sl ((a.getD 0 d0).ll), .sl [], .i (0 : Int)]) 0 fun v4 =>
 .ret [.sl ((v4.getD 0 d0).ll)]
 else
 if (2 : Int) = 0 then
 .fail
 else
 if 0 ≤ (IntKind.i64.wrap ((((a.getD 0 d0).ll).length : Int).tdiv (2 : Int))) ∧ (IntKind.i64.wrap ((((a.getD 0 d0).ll).length : Int).tdiv (2 : Int))) ≤ (((a.getD 0 d0).ll).length : Int) then
 (r_spec_SortDefs [.sl (((a.getD 0 d0).ll).take (IntKind.i64.wrap ((((a.getD 0 d0).ll).length : Int).tdiv (2 : Int))).toNat)]).bindR fun r5 =>
 if (2 : Int) = 0 then
 .fail
 else
 if 0 ≤ (IntKind.i64.wrap ((((a.getD 0 d0).ll).length : Int).tdiv (2 : Int))) ∧ (IntKind.i64.wrap ((((a.getD 0 d0).ll).length : Int).tdiv (2 : Int))) ≤ (((a.getD 0 d0).ll).length : Int) then
 (r_spec_SortDefs [.sl (((a.getD 0 d0).ll).drop (IntKind.i64.wrap ((((a.getD 0 d0).ll).length : Int).tdiv (2 : Int))).toNat)]).bindR fun r6 =>
 Out.andThenB (Loop E_spec_SortDefsL2 [.sl ((r5.getD 0 d0).ll), .sl ((r6.getD 0 d0).ll), .sl [], .i (0 : Int), .i (0 : Int)]) 2 fun v12 =>
 .ret [.sl ((v12.getD 0 d0).ll)]
 else
 .fail
 else
 .fail
theorem eq_spec_SortDefs a : r_spec_SortDefs a = E_spec_SortDefs a := (Run_eq cfg 6 _ a).trans (by kernel_rfl)
noncomputable def E_impl_SortDefs (a : List DC) : Out :=
 (r_impl_cloneDefs [.sl ((a.getD 0 d0).ll)]).bindR fun r1 =>
 if ((r1.getD 0 d0).ll).length < LIM then
 .ret [.sl (stbD 3 ((r1.getD 0 d0).ll))]
 else
 .fail
theorem eq_impl_SortDefs a : r_impl_SortDefs a = E_impl_SortDefs a := (Run_eq cfg 8 _ a).trans (by kernel_rfl)
noncomputable def E_laws_eqDefSL1 : List DC → Out := fun v1 =>
 if (decide ((v1.getD 2 d0).ii < (((v1.getD 0 d0).ll).length : Int))) = true then
 Out.andThenB (if 50 = 50 ∧ 0 ≤ (v1.getD 2 d0).ii ∧ (v1.getD 2 d0).ii < (((v1.getD 0 d0).ll).length : Int) then
 if 50 = 50 ∧ 0 ≤ (v1.getD 2 d0).ii ∧ (v1.getD 2 d0).ii < (((v1.getD 1 d0).ll).length : Int) then
 (r_laws_eqDef [.i (((((v1.getD 0 d0).ll).getD ((v1.getD 2 d0).ii).toNat []).getD 0 d0).ii), .b (((((v1.getD 0 d0).ll).getD ((v1.getD 2 d0).ii).toNat []).getD 1 d0).bb), .s (((((v1.getD 0 d0).ll).getD ((v1.getD 2 d0).ii).toNat []).getD 2 d0).ss), .s (((((v1.getD 0 d0).ll).getD ((v1.getD 2 d0).ii).toNat []).getD 3 d0).ss), .sl (((((v1.getD 0 d0).ll).getD ((v1.getD 2 d0).ii).toNat []).getD 4 d0).ll), .sl (((((v1.getD 0 d0).ll).getD ((v1.getD 2 d0).ii).toNat []).getD 5 d0).ll), .sl (((((v1.getD 0 d0).ll).getD ((v1.getD 2 d0).ii).toNat []).getD 6 d0).ll), .sl (((((v1.getD 0 d0).ll).getD ((v1.getD 2 d0).ii).toNat []).getD 7 d0).ll), .sl (((((v1.getD 0 d0).ll).getD ((v1.getD 2 d0).ii).toNat []).getD 8 d0).ll), .b (((((v1.getD 0 d0).ll).getD ((v1.getD 2 d0).ii).toNat []).getD 9 d0).bb), .sl (((((v1.getD 0 d0).ll).getD ((v1.getD 2 d0).ii).toNat []).getD 10 d0).ll), .i (((((v1.getD 1 d0).ll).getD ((v1.getD 2 d0).ii).toNat []).getD 0 d0).ii), .b (((((v1.getD 1 d0).ll).getD ((v1.getD 2 d0).ii).toNat []).getD 1 d0).bb), .s (((((v1.getD 1 d0).ll).getD ((v1.getD 2 d0).ii).toNat []).getD 2 d0).ss), .s (((((v1.getD 1 d0).ll).getD ((v1.getD 2 d0).ii).toNat []).getD 3 d0).ss), .sl (((((v1.getD 1 d0).ll).getD ((v1.getD 2 d0).ii).toNat []).getD 4 d0).ll), .sl (((((v1.getD 1 d0).ll).getD ((v1.getD 2 d0).ii).toNat []).getD 5 d0).ll), .sl (((((v1.getD 1 d0).ll).getD ((v1.getD 2 d0).ii).toNat []).getD 6 d0).ll), .sl (((((v1.getD 1 d0).ll).getD ((v1.getD 2 d0).ii).toNat []).getD 7 d0).ll), .sl (((((v1.getD 1 d0).ll).getD ((v1.getD 2 d0).ii).toNat []).getD 8 d0).ll), .b (((((v1.getD 1 d0).ll).getD ((v1.getD 2 d0).ii).toNat []).getD 9 d0).bb), .sl (((((v1.getD 1 d0).ll).getD ((v1.getD 2 d0).ii).toNat []).getD 10 d0).ll)]).bindR fun r2 =>
 if (!((r2.getD 0 d0).bb)) = true then
 .ret [.b false]
 else
 .norm [.sl ((v1.getD 0 d0).ll), .sl ((v1.getD 1 d0).ll), .i ((v1.getD 2 d0).ii)]
 else
 .fail
 else
 .fail) 1 fun v3 =>
 .norm [.sl ((v3.getD 0 d0).ll), .sl ((v3.getD 1 d0).ll), .i (IntKind.i64.wrap ((v3.getD 2 d0).ii + (1 : Int)))]
 else
 .ex 0 []
noncomputable def E_laws_eqDefS (a : List DC) : Out :=
 if ((((a.getD 0 d0).ll).length : Int) != (((a.getD 1 d0).ll).length : Int)) = true then
 .ret [.b false]
 else
 Out.andThenB (Loop E_laws_eqDefSL1 [.sl ((a.getD 0 d0).ll), .sl ((a.getD 1 d0).ll), .i (0 : Int)]) 0 fun v4 =>
 .ret [.b true]
theorem eq_laws_eqDefS a : r_laws_eqDefS a = E_laws_eqDefS a := (Run_eq cfg 9 _ a).trans (by kernel_rfl)
noncomputable def E_laws_heldDefSL1 : List DC → Out := fun v1 =>
 if (decide ((v1.getD 2 d0).ii < (((v1.getD 0 d0).ll).length : Int))) = true then
 Out.andThenB (if 50 = 50 ∧ 0 ≤ (v1.getD 2 d0).ii ∧ (v1.getD 2 d0).ii < (((v1.getD 0 d0).ll).length : Int) then
 if (((((v1.getD 0 d0).ll).getD ((v1.getD 2 d0).ii).toNat []).getD 0 d0).ii != (v1.getD 1 d0).ii) = true then
 .ret [.i (-1 : Int)]
 else
 if 50 = 50 ∧ 0 ≤ (v1.getD 2 d0).ii ∧ (v1.getD 2 d0).ii < (((v1.getD 0 d0).ll).length : Int) then
 if (3 : Int) = 0 then
 .fail
 else
 if (!(((((v1.getD 0 d0).ll).getD ((v1.getD 2 d0).ii).toNat []).getD 1 d0).bb == (((IntKind.i64.wrap ((v1.getD 1 d0).ii + (1 : Int))).tmod (3 : Int)) == (0 : Int)))) = true then
 .ret [.i (-1 : Int)]
 else
 if 50 = 50 ∧ 0 ≤ (v1.getD 2 d0).ii ∧ (v1.getD 2 d0).ii < (((v1.getD 0 d0).ll).length : Int) then
 (r_laws_markText [.i (IntKind.i64.wrap ((IntKind.i64.wrap ((v1.getD 1 d0).ii + (1 : Int))) + (1 : Int)))]).bindR fun r2 =>
 if (!(((((v1.getD 0 d0).ll).getD ((v1.getD 2 d0).ii).toNat []).getD 2 d0).ss == (r2.getD 0 d0).ss)) = true then
 .ret [.i (-1 : Int)]
 else
 if 50 = 50 ∧ 0 ≤ (v1.getD 2 d0).ii ∧ (v1.getD 2 d0).ii < (((v1.getD 0 d0).ll).length : Int) then
 (r_laws_markText [.i (IntKind.i64.wrap ((IntKind.i64.wrap ((IntKind.i64.wrap ((v1.getD 1 d0).ii + (1 : Int))) + (1 : Int))) + (1 : Int)))]).bindR fun r3 =>
 if (!(((((v1.getD 0 d0).ll).getD ((v1.getD 2 d0).ii).toNat []).getD 3 d0).ss == (r3.getD 0 d0).ss)) = true then
 .ret [.i (-1 : Int)]
 else
 if 50 = 50 ∧ 0 ≤ (v1.getD 2 d0).ii ∧ (v1.getD 2 d0).ii < (((v1.getD 0 d0).ll).length : Int) then
 (r_laws_heldStringS [.sl (((((v1.getD 0 d0).ll).getD ((v1.getD 2 d0).ii).toNat []).getD 4 d0).ll), .i (IntKind.i64.wrap ((IntKind.i64.wrap ((IntKind.i64.wrap ((IntKind.i64.wrap ((v1.getD 1 d0).ii + (1 : Int))) + (1 : Int))) + (1 : Int))) + (1 : Int)))]).bindR fun r4 =>
 if (decide ((r4.getD 0 d0).ii < (0 : Int))) = true then
 .ret [.i (-1 : Int)]
 else
 if 50 = 50 ∧ 0 ≤ (v1.getD 2 d0).ii ∧ (v1.getD 2 d0).ii < (((v1.getD 0 d0).ll).length : Int) then
 (r_laws_heldFieldDefS [.sl (((((v1.getD 0 d0).ll).getD ((v1.getD 2 d0).ii).toNat []).getD 5 d0).ll), .i ((r4.getD 0 d0).ii)]).bindR fun r5 =>
 if (decide ((r5.getD 0 d0).ii < (0 : Int))) = true then
 .ret [.i (-1 : Int)]
 else
 if 50 = 50 ∧ 0 ≤ (v1.getD 2 d0).ii ∧ (v1.getD 2 d0).ii < (((v1.getD 0 d0).ll).length : Int) then
 (r_laws_heldInDefS [.sl (((((v1.getD 0 d0).ll).getD ((v1.getD 2 d0).ii).toNat []).getD 6 d0).ll), .i ((r5.getD 0 d0).ii)]).bindR fun r6 =>
 if (decide ((r6.getD 0 d0).ii < (0 : Int))) = true then
 .ret [.i (-1 : Int)]
 else
 if 50 = 50 ∧ 0 ≤ (v1.getD 2 d0).ii ∧ (v1.getD 2 d0).ii < (((v1.getD 0 d0).ll).length : Int) then
 (r_laws_heldEnumDefS [.sl (((((v1.getD 0 d0).ll).getD ((v1.getD 2 d0).ii).toNat []).getD 7 d0).ll), .i ((r6.getD 0 d0).ii)]).bindR fun r7 =>
 if (decide ((r7.getD 0 d0).ii < (0 : Int))) = true then
 .ret [.i (-1 : Int)]
 else
 if 50 = 50 ∧ 0 ≤ (v1.getD 2 d0).ii ∧ (v1.getD 2 d0).ii < (((v1.getD 0 d0).ll).length : Int) then
 (r_laws_heldRootS [.sl (((((v1.getD 0 d0).ll).getD ((v1.getD 2 d0).ii).toNat []).getD 8 d0).ll), .i ((r7.getD 0 d0).ii)]).bindR fun r8 =>
 if (decide ((r8.getD 0 d0).ii < (0 : Int))) = true then
 .ret [.i (-1 : Int)]
 else
 if 50 = 50 ∧ 0 ≤ (v1.getD 2 d0).ii ∧ (v1.getD 2 d0).ii < (((v1.getD 0 d0).ll).length : Int) then
 if (3 : Int) = 0 then
 .fail
 else
 if (!(((((v1.getD 0 d0).ll).getD ((v1.getD 2 d0).ii).toNat []).getD 9 d0).bb == ((((r8.getD 0 d0).ii).tmod (3 : Int)) == (0 : Int)))) = true then
 .ret [.i (-1 : Int)]
 else
 if 50 = 50 ∧ 0 ≤ (v1.getD 2 d0).ii ∧ (v1.getD 2 d0).ii < (((v1.getD 0 d0).ll).length : Int) then
 (r_laws_heldDirS [.sl (((((v1.getD 0 d0).ll).getD ((v1.getD 2 d0).ii).toNat []).getD 10 d0).ll), .i (IntKind.i64.wrap ((r8.getD 0 d0).ii + (1 : Int)))]).bindR fun r9 =>
 if (decide ((r9.getD 0 d0).ii < (0 : Int))) = true then
 .ret [.i (-1 : Int)]
 else
 .norm [.sl ((v1.getD 0 d0).ll), .i ((r9.getD 0 d0).ii), .i ((v1.getD 2 d0).ii)]
 else
 .fail
 else
 .fail
 else
 .fail
 else
 .fail
 else
 .fail
 else
 .fail
 else
 .fail
 else
 .fail
 else
 .fail
 else
 .fail
 else
 .fail) 1 fun v10 =>
 .norm [.sl ((v10.getD 0 d0).ll), .i ((v10.getD 1 d0).ii), .i (IntKind.i64.wrap ((v10.getD 2 d0).ii + (1 : Int)))]
 else
 .ex 0 [.i ((v1.getD 1 d0).ii)]
noncomputable def E_laws_heldDefS (a : List DC) : Out :=
 Out.andThenB (Loop E_laws_heldDefSL1 [.sl ((a.getD 0 d0).ll), .i ((a.getD 1 d0).ii), .i (0 : Int)]) 0 fun v11 =>
 .ret [.i ((v11.getD 0 d0).ii)]
theorem eq_laws_heldDefS a : r_laws_heldDefS a = E_laws_heldDefS a := (Run_eq cfg 11 _ a).trans (by kernel_rfl)
noncomputable def E_laws_szDef (a : List DC) : Out :=
 if (decide ((IntKind.i64.wrap ((a.getD 11 d0).ii - (((a.getD 2 d0).ss).length : Int))) < (0 : Int))) = true then
 .ret [.i (-1 : Int)]
 else
 if (decide ((IntKind.i64.wrap ((IntKind.i64.wrap ((a.getD 11 d0).ii - (((a.getD 2 d0).ss).length : Int))) - (((a.getD 3 d0).ss).length : Int))) < (0 : Int))) = true then
 .ret [.i (-1 : Int)]
 else
 (r_laws_szStringS [.sl ((a.getD 4 d0).ll), .i (IntKind.i64.wrap ((IntKind.i64.wrap ((a.getD 11 d0).ii - (((a.getD 2 d0).ss).length : Int))) - (((a.getD 3 d0).ss).length : Int)))]).bindR fun r1 =>
 if (decide ((r1.getD 0 d0).ii < (0 : Int))) = true then
 .ret [.i (-1 : Int)]
 else
 (r_laws_szFieldDefS [.sl ((a.getD 5 d0).ll), .i ((r1.getD 0 d0).ii)]).bindR fun r2 =>
 if (decide ((r2.getD 0 d0).ii < (0 : Int))) = true then
 .ret [.i (-1 : Int)]
 else
 (r_laws_szInDefS [.sl ((a.getD 6 d0).ll), .i ((r2.getD 0 d0).ii)]).bindR fun r3 =>
 if (decide ((r3.getD 0 d0).ii < (0 : Int))) = true then
 .ret [.i (-1 : Int)]
 else
 (r_laws_szEnumDefS [.sl ((a.getD 7 d0).ll), .i ((r3.getD 0 d0).ii)]).bindR fun r4 =>
 if (decide ((r4.getD 0 d0).ii < (0 : Int))) = true then
 .ret [.i (-1 : Int)]
 else
 (r_laws_szRootS [.sl ((a.getD 8 d0).ll), .i ((r4.getD 0 d0).ii)]).bindR fun r5 =>
 if (decide ((r5.getD 0 d0).ii < (0 : Int))) = true then
 .ret [.i (-1 : Int)]
 else
 (r_laws_szDirS [.sl ((a.getD 10 d0).ll), .i ((r5.getD 0 d0).ii)]).bindR fun r6 =>
 if (decide ((r6.getD 0 d0).ii < (0 : Int))) = true then
 .ret [.i (-1 : Int)]
 else
 .ret [.i ((r6.getD 0 d0).ii)]
theorem eq_laws_szDef a : r_laws_szDef a = E_laws_szDef a := (Run_eq cfg 17 _ a).trans (by kernel_rfl)
noncomputable def E_laws_toDef (a : List DC) : Out :=
 (r_laws_toStringS [.sl ((a.getD 4 d0).ll)]).bindR fun r1 =>
 (r_laws_toFieldDefS [.sl ((a.getD 5 d0).ll)]).bindR fun r2 =>
 (r_laws_toInDefS [.sl ((a.getD 6 d0).ll)]).bindR fun r3 =>
 (r_laws_toEnumDefS [.sl ((a.getD 7 d0).ll)]).bindR fun r4 =>
 (r_laws_toRootS [.sl ((a.getD 8 d0).ll)]).bindR fun r5 =>
 (r_laws_toDirS [.sl ((a.getD 10 d0).ll)]).bindR fun r6 =>
 .ret [.i ((a.getD 0 d0).ii), .b ((a.getD 1 d0).bb), .s ((a.getD 2 d0).ss), .s ((a.getD 3 d0).ss), .sl ((r1.getD 0 d0).ll), .sl ((r2.getD 0 d0).ll), .sl ((r3.getD 0 d0).ll), .sl ((r4.getD 0 d0).ll), .sl ((r5.getD 0 d0).ll), .b ((a.getD 9 d0).bb), .sl ((r6.getD 0 d0).ll)]
theorem eq_laws_toDef a : r_laws_toDef a = E_laws_toDef a := (Run_eq cfg 19 _ a).trans (by kernel_rfl)
noncomputable def E_spec_l13Copy (a : List DC) : Out :=
 if ([] : List (List DC)).length + ((a.getD 4 d0).ll).length < LIM then
 (r_spec_l13CopyFields [.sl ((a.getD 5 d0).ll)]).bindR fun r1 =>
 (r_spec_l13CopyIns [.sl ((a.getD 6 d0).ll)]).bindR fun r2 =>
 (r_spec_l13CopyValues [.sl ((a.getD 7 d0).ll)]).bindR fun r3 =>
 if ([] : List (List DC)).length + ((a.getD 8 d0).ll).length < LIM then
 (r_spec_l10Dirs [.sl ((a.getD 10 d0).ll)]).bindR fun r4 =>
 .ret [.i ((a.getD 0 d0).ii), .b ((a.getD 1 d0).bb), .s ((a.getD 2 d0).ss), .s ((a.getD 3 d0).ss), .sl (([] : List (List DC)) ++ ((a.getD 4 d0).ll)), .sl ((r1.getD 0 d0).ll), .sl ((r2.getD 0 d0).ll), .sl ((r3.getD 0 d0).ll), .sl (([] : List (List DC)) ++ ((a.getD 8 d0).ll)), .b ((a.getD 9 d0).bb), .sl ((r4.getD 0 d0).ll)]
 else
 .fail
 else
 .fail
theorem eq_spec_l13Copy a : r_spec_l13Copy a = E_spec_l13Copy a := (Run_eq cfg 18 _ a).trans (by kernel_rfl)
noncomputable def E_impl_cloneDefsL1 : List DC → Out := fun v4 =>
 if (decide ((v4.getD 3 d0).ii < (v4.getD 2 d0).ii)) = true then
 Out.andThenB (if 50 = 50 ∧ 0 ≤ (v4.getD 3 d0).ii ∧ (v4.getD 3 d0).ii < (((v4.getD 1 d0).ll).length : Int) then
 (r_impl_cloneDef [.i (((((v4.getD 1 d0).ll).getD ((v4.getD 3 d0).ii).toNat []).getD 0 d0).ii), .b (((((v4.getD 1 d0).ll).getD ((v4.getD 3 d0).ii).toNat []).getD 1 d0).bb), .s (((((v4.getD 1 d0).ll).getD ((v4.getD 3 d0).ii).toNat []).getD 2 d0).ss), .s (((((v4.getD 1 d0).ll).getD ((v4.getD 3 d0).ii).toNat []).getD 3 d0).ss), .sl (((((v4.getD 1 d0).ll).getD ((v4.getD 3 d0).ii).toNat []).getD 4 d0).ll), .sl (((((v4.getD 1 d0).ll).getD ((v4.getD 3 d0).ii).toNat []).getD 5 d0).ll), .sl (((((v4.getD 1 d0).ll).getD ((v4.getD 3 d0).ii).toNat []).getD 6 d0).ll), .sl (((((v4.getD 1 d0).ll).getD ((v4.getD 3 d0).ii).toNat []).getD 7 d0).ll), .sl (((((v4.getD 1 d0).ll).getD ((v4.getD 3 d0).ii).toNat []).getD 8 d0).ll), .b (((((v4.getD 1 d0).ll).getD ((v4.getD 3 d0).ii).toNat []).getD 9 d0).bb), .sl (((((v4.getD 1 d0).ll).getD ((v4.getD 3 d0).ii).toNat []).getD 10 d0).ll)]).bindR fun r5 =>
 if ((v4.getD 0 d0).ll).length + [[DC.i ((r5.getD 0 d0).ii), DC.b ((r5.getD 1 d0).bb), DC.s ((r5.getD 2 d0).ss), DC.s ((r5.getD 3 d0).ss), DC.sl ((r5.getD 4 d0).ll), DC.sl ((r5.getD 5 d0).ll), DC.sl ((r5.getD 6 d0).ll), DC.sl ((r5.getD 7 d0).ll), DC.sl ((r5.getD 8 d0).ll), DC.b ((r5.getD 9 d0).bb), DC.sl ((r5.getD 10 d0).ll)]].length < LIM ∧ 24 = 24 then
 .norm [.sl (((v4.getD 0 d0).ll) ++ [[DC.i ((r5.getD 0 d0).ii), DC.b ((r5.getD 1 d0).bb), DC.s ((r5.getD 2 d0).ss), DC.s ((r5.getD 3 d0).ss), DC.sl ((r5.getD 4 d0).ll), DC.sl ((r5.getD 5 d0).ll), DC.sl ((r5.getD 6 d0).ll), DC.sl ((r5.getD 7 d0).ll), DC.sl ((r5.getD 8 d0).ll), DC.b ((r5.getD 9 d0).bb), DC.sl ((r5.getD 10 d0).ll)]]), .sl ((v4.getD 1 d0).ll), .i ((v4.getD 2 d0).ii), .i ((v4.getD 3 d0).ii)]
 else
 .fail
 else
 .fail) 1 fun v6 =>
 .norm [.sl ((v6.getD 0 d0).ll), .sl ((v6.getD 1 d0).ll), .i ((v6.getD 2 d0).ii), .i (IntKind.i64.wrap ((v6.getD 3 d0).ii + (1 : Int)))]
 else
 .ex 0 [.sl ((v4.getD 0 d0).ll)]
noncomputable def E_impl_cloneDefs (a : List DC) : Out :=
 Out.andThenB (Loop E_impl_cloneDefsL1 [.sl [], .sl ((a.getD 0 d0).ll), .i (((a.getD 0 d0).ll).length : Int), .i (0 : Int)]) 0 fun v7 =>
 .ret [.sl ((v7.getD 0 d0).ll)]
theorem eq_impl_cloneDefs a : r_impl_cloneDefs a = E_impl_cloneDefs a := (Run_eq cfg 20 _ a).trans (by kernel_rfl)
noncomputable def E_laws_eqDef (a : List DC) : Out :=
 if ((a.getD 0 d0).ii != (a.getD 11 d0).ii) = true then
 .ret [.b false]
 else
 if (!((a.getD 1 d0).bb == (a.getD 12 d0).bb)) = true then
 .ret [.b false]
 else
 if (!((a.getD 2 d0).ss == (a.getD 13 d0).ss)) = true then
 .ret [.b false]
 else
 if (!((a.getD 3 d0).ss == (a.getD 14 d0).ss)) = true then
 .ret [.b false]
 else
 (r_laws_eqStringS [.sl ((a.getD 4 d0).ll), .sl ((a.getD 15 d0).ll)]).bindR fun r1 =>
 if (!((r1.getD 0 d0).bb)) = true then
 .ret [.b false]
 else
 (r_laws_eqFieldDefS [.sl ((a.getD 5 d0).ll), .sl ((a.getD 16 d0).ll)]).bindR fun r2 =>
 if (!((r2.getD 0 d0).bb)) = true then
 .ret [.b false]
 else
 (r_laws_eqInDefS [.sl ((a.getD 6 d0).ll), .sl ((a.getD 17 d0).ll)]).bindR fun r3 =>
 if (!((r3.getD 0 d0).bb)) = true then
 .ret [.b false]
 else
 (r_laws_eqEnumDefS [.sl ((a.getD 7 d0).ll), .sl ((a.getD 18 d0).ll)]).bindR fun r4 =>
 if (!((r4.getD 0 d0).bb)) = true then
 .ret [.b false]
 else
 (r_laws_eqRootS [.sl ((a.getD 8 d0).ll), .sl ((a.getD 19 d0).ll)]).bindR fun r5 =>
 if (!((r5.getD 0 d0).bb)) = true then
 .ret [.b false]
 else
 if (!((a.getD 9 d0).bb == (a.getD 20 d0).bb)) = true then
 .ret [.b false]
 else
 (r_laws_eqDirS [.sl ((a.getD 10 d0).ll), .sl ((a.getD 21 d0).ll)]).bindR fun r6 =>
 if (!((r6.getD 0 d0).bb)) = true then
 .ret [.b false]
 else
 .ret [.b true]
theorem eq_laws_eqDef a : r_laws_eqDef a = E_laws_eqDef a := (Run_eq cfg 24 _ a).trans (by kernel_rfl)
theorem eq_laws_markText a : r_laws_markText a = E_laws_markText a := (Run_eq cfg 25 _ a).trans (by kernel_rfl)
noncomputable def E_laws_heldStringSL1 : List DC → Out := fun v1 =>
 if (decide ((v1.getD 2 d0).ii < (((v1.getD 0 d0).ll).length : Int))) = true then
 Out.andThenB (if 9 = 9 ∧ 0 ≤ (v1.getD 2 d0).ii ∧ (v1.getD 2 d0).ii < (((v1.getD 0 d0).ll).length : Int) then
 (r_laws_markText [.i ((v1.getD 1 d0).ii)]).bindR fun r2 =>
 if (!(((((v1.getD 0 d0).ll).getD ((v1.getD 2 d0).ii).toNat []).getD 0 d0).ss == (r2.getD 0 d0).ss)) = true then
 .ret [.i (-1 : Int)]
 else
 .norm [.sl ((v1.getD 0 d0).ll), .i (IntKind.i64.wrap ((v1.getD 1 d0).ii + (1 : Int))), .i ((v1.getD 2 d0).ii)]
 else
 .fail) 1 fun v3 =>
 .norm [.sl ((v3.getD 0 d0).ll), .i ((v3.getD 1 d0).ii), .i (IntKind.i64.wrap ((v3.getD 2 d0).ii + (1 : Int)))]
 else
 .ex 0 [.i ((v1.getD 1 d0).ii)]
noncomputable def E_laws_heldStringS (a : List DC) : Out :=
 Out.andThenB (Loop E_laws_heldStringSL1 [.sl ((a.getD 0 d0).ll), .i ((a.getD 1 d0).ii), .i (0 : Int)]) 0 fun v4 =>
 .ret [.i ((v4.getD 0 d0).ii)]
theorem eq_laws_heldStringS a : r_laws_heldStringS a = E_laws_heldStringS a := (Run_eq cfg 32 _ a).trans (by kernel_rfl)
noncomputable def E_laws_heldFieldDefSL1 : List DC → Out := fun v1 =>
 if (decide ((v1.getD 2 d0).ii < (((v1.getD 0 d0).ll).length : Int))) = true then
 Out.andThenB (if 97 = 97 ∧ 0 ≤ (v1.getD 2 d0).ii ∧ (v1.getD 2 d0).ii < (((v1.getD 0 d0).ll).length : Int) then
 (r_laws_markText [.i ((v1.getD 1 d0).ii)]).bindR fun r2 =>
 if (!(((((v1.getD 0 d0).ll).getD ((v1.getD 2 d0).ii).toNat []).getD 0 d0).ss == (r2.getD 0 d0).ss)) = true then
 .ret [.i (-1 : Int)]
 else
 if 97 = 97 ∧ 0 ≤ (v1.getD 2 d0).ii ∧ (v1.getD 2 d0).ii < (((v1.getD 0 d0).ll).length : Int) then
 (r_laws_markText [.i (IntKind.i64.wrap ((v1.getD 1 d0).ii + (1 : Int)))]).bindR fun r3 =>
 if (!(((((v1.getD 0 d0).ll).getD ((v1.getD 2 d0).ii).toNat []).getD 1 d0).ss == (r3.getD 0 d0).ss)) = true then
 .ret [.i (-1 : Int)]
 else
 if 97 = 97 ∧ 0 ≤ (v1.getD 2 d0).ii ∧ (v1.getD 2 d0).ii < (((v1.getD 0 d0).ll).length : Int) then
 (r_laws_heldInDefS [.sl (((((v1.getD 0 d0).ll).getD ((v1.getD 2 d0).ii).toNat []).getD 2 d0).ll), .i (IntKind.i64.wrap ((IntKind.i64.wrap ((v1.getD 1 d0).ii + (1 : Int))) + (1 : Int)))]).bindR fun r4 =>
 if (decide ((r4.getD 0 d0).ii < (0 : Int))) = true then
 .ret [.i (-1 : Int)]
 else
 if 97 = 97 ∧ 0 ≤ (v1.getD 2 d0).ii ∧ (v1.getD 2 d0).ii < (((v1.getD 0 d0).ll).length : Int) then
 (r_laws_markText [.i ((r4.getD 0 d0).ii)]).bindR fun r5 =>
 if (!(((((v1.getD 0 d0).ll).getD ((v1.getD 2 d0).ii).toNat []).getD 3 d0).ss == (r5.getD 0 d0).ss)) = true then
 .ret [.i (-1 : Int)]
 else
 if 97 = 97 ∧ 0 ≤ (v1.getD 2 d0).ii ∧ (v1.getD 2 d0).ii < (((v1.getD 0 d0).ll).length : Int) then
 (r_laws_markText [.i (IntKind.i64.wrap ((r4.getD 0 d0).ii + (1 : Int)))]).bindR fun r6 =>
 if (!(((((v1.getD 0 d0).ll).getD ((v1.getD 2 d0).ii).toNat []).getD 4 d0).ss == (r6.getD 0 d0).ss)) = true then
 .ret [.i (-1 : Int)]
 else
 if 97 = 97 ∧ 0 ≤ (v1.getD 2 d0).ii ∧ (v1.getD 2 d0).ii < (((v1.getD 0 d0).ll).length : Int) then
 (r_laws_heldDirS [.sl (((((v1.getD 0 d0).ll).getD ((v1.getD 2 d0).ii).toNat []).getD 5 d0).ll), .i (IntKind.i64.wrap ((IntKind.i64.wrap ((r4.getD 0 d0).ii + (1 : Int))) + (1 : Int)))]).bindR fun r7 =>
 if (decide ((r7.getD 0 d0).ii < (0 : Int))) = true then
 .ret [.i (-1 : Int)]
 else
 .norm [.sl ((v1.getD 0 d0).ll), .i ((r7.getD 0 d0).ii), .i ((v1.getD 2 d0).ii)]
 else
 .fail
 else
 .fail
 else
 .fail
 else
 .fail
 else
 .fail
 else
 .fail) 1 fun v8 =>
 .norm [.sl ((v8.getD 0 d0).ll), .i ((v8.getD 1 d0).ii), .i (IntKind.i64.wrap ((v8.getD 2 d0).ii + (1 : Int)))]
 else
 .ex 0 [.i ((v1.getD 1 d0).ii)]
noncomputable def E_laws_heldFieldDefS (a : List DC) : Out :=
 Out.andThenB (Loop E_laws_heldFieldDefSL1 [.sl ((a.getD 0 d0).ll), .i ((a.getD 1 d0).ii), .i (0 : Int)]) 0 fun v9 =>
 .ret [.i ((v9.getD 0 d0).ii)]
theorem eq_laws_heldFieldDefS a : r_laws_heldFieldDefS a = E_laws_heldFieldDefS a := (Run_eq cfg 33 _ a).trans (by kernel_rfl)
noncomputable def E_laws_heldInDefSL1 : List DC → Out := fun v1 =>
 if (decide ((v1.getD 2 d0).ii < (((v1.getD 0 d0).ll).length : Int))) = true then
 Out.andThenB (if 102 = 102 ∧ 0 ≤ (v1.getD 2 d0).ii ∧ (v1.getD 2 d0).ii < (((v1.getD 0 d0).ll).length : Int) then
 (r_laws_markText [.i ((v1.getD 1 d0).ii)]).bindR fun r2 =>
 if (!(((((v1.getD 0 d0).ll).getD ((v1.getD 2 d0).ii).toNat []).getD 0 d0).ss == (r2.getD 0 d0).ss)) = true then
 .ret [.i (-1 : Int)]
 else
 if 102 = 102 ∧ 0 ≤ (v1.getD 2 d0).ii ∧ (v1.getD 2 d0).ii < (((v1.getD 0 d0).ll).length : Int) then
 (r_laws_markText [.i (IntKind.i64.wrap ((v1.getD 1 d0).ii + (1 : Int)))]).bindR fun r3 =>
 if (!(((((v1.getD 0 d0).ll).getD ((v1.getD 2 d0).ii).toNat []).getD 1 d0).ss == (r3.getD 0 d0).ss)) = true then
 .ret [.i (-1 : Int)]
 else
 if 102 = 102 ∧ 0 ≤ (v1.getD 2 d0).ii ∧ (v1.getD 2 d0).ii < (((v1.getD 0 d0).ll).length : Int) then
 (r_laws_markText [.i (IntKind.i64.wrap ((IntKind.i64.wrap ((v1.getD 1 d0).ii + (1 : Int))) + (1 : Int)))]).bindR fun r4 =>
 if (!(((((v1.getD 0 d0).ll).getD ((v1.getD 2 d0).ii).toNat []).getD 2 d0).ss == (r4.getD 0 d0).ss)) = true then
 .ret [.i (-1 : Int)]
 else
 if 102 = 102 ∧ 0 ≤ (v1.getD 2 d0).ii ∧ (v1.getD 2 d0).ii < (((v1.getD 0 d0).ll).length : Int) then
 (r_laws_markText [.i (IntKind.i64.wrap ((IntKind.i64.wrap ((IntKind.i64.wrap ((v1.getD 1 d0).ii + (1 : Int))) + (1 : Int))) + (1 : Int)))]).bindR fun r5 =>
 if (!(((((v1.getD 0 d0).ll).getD ((v1.getD 2 d0).ii).toNat []).getD 3 d0).ss == (r5.getD 0 d0).ss)) = true then
 .ret [.i (-1 : Int)]
 else
 if 102 = 102 ∧ 0 ≤ (v1.getD 2 d0).ii ∧ (v1.getD 2 d0).ii < (((v1.getD 0 d0).ll).length : Int) then
 if (3 : Int) = 0 then
 .fail
 else
 if (!(((((v1.getD 0 d0).ll).getD ((v1.getD 2 d0).ii).toNat []).getD 4 d0).bb == (((IntKind.i64.wrap ((IntKind.i64.wrap ((IntKind.i64.wrap ((IntKind.i64.wrap ((v1.getD 1 d0).ii + (1 : Int))) + (1 : Int))) + (1 : Int))) + (1 : Int))).tmod (3 : Int)) == (0 : Int)))) = true then
 .ret [.i (-1 : Int)]
 else
 if 102 = 102 ∧ 0 ≤ (v1.getD 2 d0).ii ∧ (v1.getD 2 d0).ii < (((v1.getD 0 d0).ll).length : Int) then
 if (((((v1.getD 0 d0).ll).getD ((v1.getD 2 d0).ii).toNat []).getD 5 d0).ii != (IntKind.i64.wrap ((IntKind.i64.wrap ((IntKind.i64.wrap ((IntKind.i64.wrap ((IntKind.i64.wrap ((v1.getD 1 d0).ii + (1 : Int))) + (1 : Int))) + (1 : Int))) + (1 : Int))) + (1 : Int)))) = true then
 .ret [.i (-1 : Int)]
 else
 if 102 = 102 ∧ 0 ≤ (v1.getD 2 d0).ii ∧ (v1.getD 2 d0).ii < (((v1.getD 0 d0).ll).length : Int) then
 (r_laws_markText [.i (IntKind.i64.wrap ((IntKind.i64.wrap ((IntKind.i64.wrap ((IntKind.i64.wrap ((IntKind.i64.wrap ((IntKind.i64.wrap ((v1.getD 1 d0).ii + (1 : Int))) + (1 : Int))) + (1 : Int))) + (1 : Int))) + (1 : Int))) + (1 : Int)))]).bindR fun r6 =>
 if (!(((((v1.getD 0 d0).ll).getD ((v1.getD 2 d0).ii).toNat []).getD 6 d0).ss == (r6.getD 0 d0).ss)) = true then
 .ret [.i (-1 : Int)]
 else
 if 102 = 102 ∧ 0 ≤ (v1.getD 2 d0).ii ∧ (v1.getD 2 d0).ii < (((v1.getD 0 d0).ll).length : Int) then
 (r_laws_heldValueS [.sl (((((v1.getD 0 d0).ll).getD ((v1.getD 2 d0).ii).toNat []).getD 7 d0).ll), .i (IntKind.i64.wrap ((IntKind.i64.wrap ((IntKind.i64.wrap ((IntKind.i64.wrap ((IntKind.i64.wrap ((IntKind.i64.wrap ((IntKind.i64.wrap ((v1.getD 1 d0).ii + (1 : Int))) + (1 : Int))) + (1 : Int))) + (1 : Int))) + (1 : Int))) + (1 : Int))) + (1 : Int)))]).bindR fun r7 =>
 if (decide ((r7.getD 0 d0).ii < (0 : Int))) = true then
 .ret [.i (-1 : Int)]
 else
 if 102 = 102 ∧ 0 ≤ (v1.getD 2 d0).ii ∧ (v1.getD 2 d0).ii < (((v1.getD 0 d0).ll).length : Int) then
 (r_laws_heldStringS [.sl (((((v1.getD 0 d0).ll).getD ((v1.getD 2 d0).ii).toNat []).getD 8 d0).ll), .i ((r7.getD 0 d0).ii)]).bindR fun r8 =>
 if (decide ((r8.getD 0 d0).ii < (0 : Int))) = true then
 .ret [.i (-1 : Int)]
 else
 if 102 = 102 ∧ 0 ≤ (v1.getD 2 d0).ii ∧ (v1.getD 2 d0).ii < (((v1.getD 0 d0).ll).length : Int) then
 (r_laws_heldDirS [.sl (((((v1.getD 0 d0).ll).getD ((v1.getD 2 d0).ii).toNat []).getD 9 d0).ll), .i ((r8.getD 0 d0).ii)]).bindR fun r9 =>
 if (decide ((r9.getD 0 d0).ii < (0 : Int))) = true then
 .ret [.i (-1 : Int)]
 else
 .norm [.sl ((v1.getD 0 d0).ll), .i ((r9.getD 0 d0).ii), .i ((v1.getD 2 d0).ii)]
 else
 .fail
 else
 .fail
 else
 .fail
 else
 .fail
 else
 .fail
 else
 .fail
 else
 .fail
 else
 .fail
 else
 .fail
 else
 .fail) 1 fun v10 =>
 .norm [.sl ((v10.getD 0 d0).ll), .i ((v10.getD 1 d0).ii), .i (IntKind.i64.wrap ((v10.getD 2 d0).ii + (1 : Int)))]
 else
 .ex 0 [.i ((v1.getD 1 d0).ii)]
noncomputable def E_laws_heldInDefS (a : List DC) : Out :=
 Out.andThenB (Loop E_laws_heldInDefSL1 [.sl ((a.getD 0 d0).ll), .i ((a.getD 1 d0).ii), .i (0 : Int)]) 0 fun v11 =>
 .ret [.i ((v11.getD 0 d0).ii)]
theorem eq_laws_heldInDefS a : r_laws_heldInDefS a = E_laws_heldInDefS a := (Run_eq cfg 34 _ a).trans (by kernel_rfl)
noncomputable def E_laws_heldEnumDefSL1 : List DC → Out := fun v1 =>
 if (decide ((v1.getD 2 d0).ii < (((v1.getD 0 d0).ll).length : Int))) = true then
 Out.andThenB (if 105 = 105 ∧ 0 ≤ (v1.getD 2 d0).ii ∧ (v1.getD 2 d0).ii < (((v1.getD 0 d0).ll).length : Int) then
 (r_laws_markText [.i ((v1.getD 1 d0).ii)]).bindR fun r2 =>
 if (!(((((v1.getD 0 d0).ll).getD ((v1.getD 2 d0).ii).toNat []).getD 0 d0).ss == (r2.getD 0 d0).ss)) = true then
 .ret [.i (-1 : Int)]
 else
 if 105 = 105 ∧ 0 ≤ (v1.getD 2 d0).ii ∧ (v1.getD 2 d0).ii < (((v1.getD 0 d0).ll).length : Int) then
 (r_laws_markText [.i (IntKind.i64.wrap ((v1.getD 1 d0).ii + (1 : Int)))]).bindR fun r3 =>
 if (!(((((v1.getD 0 d0).ll).getD ((v1.getD 2 d0).ii).toNat []).getD 1 d0).ss == (r3.getD 0 d0).ss)) = true then
 .ret [.i (-1 : Int)]
 else
 if 105 = 105 ∧ 0 ≤ (v1.getD 2 d0).ii ∧ (v1.getD 2 d0).ii < (((v1.getD 0 d0).ll).length : Int) then
 (r_laws_heldDirS [.sl (((((v1.getD 0 d0).ll).getD ((v1.getD 2 d0).ii).toNat []).getD 2 d0).ll), .i (IntKind.i64.wrap ((IntKind.i64.wrap ((v1.getD 1 d0).ii + (1 : Int))) + (1 : Int)))]).bindR fun r4 =>
 if (decide ((r4.getD 0 d0).ii < (0 : Int))) = true then
 .ret [.i (-1 : Int)]
 else
 .norm [.sl ((v1.getD 0 d0).ll), .i ((r4.getD 0 d0).ii), .i ((v1.getD 2 d0).ii)]
 else
 .fail
 else
 .fail
 else
 .fail) 1 fun v5 =>
 .norm [.sl ((v5.getD 0 d0).ll), .i ((v5.getD 1 d0).ii), .i (IntKind.i64.wrap ((v5.getD 2 d0).ii + (1 : Int)))]
 else
 .ex 0 [.i ((v1.getD 1 d0).ii)]
noncomputable def E_laws_heldEnumDefS (a : List DC) : Out :=
 Out.andThenB (Loop E_laws_heldEnumDefSL1 [.sl ((a.getD 0 d0).ll), .i ((a.getD 1 d0).ii), .i (0 : Int)]) 0 fun v6 =>
 .ret [.i ((v6.getD 0 d0).ii)]
theorem eq_laws_heldEnumDefS a : r_laws_heldEnumDefS a = E_laws_heldEnumDefS a := (Run_eq cfg 35 _ a).trans (by kernel_rfl)
noncomputable def E_laws_heldRootSL1 : List DC → Out := fun v1 =>
 if (decide ((v1.getD 2 d0).ii < (((v1.getD 0 d0).ll).length : Int))) = true then
 Out.andThenB (if 68 = 68 ∧ 0 ≤ (v1.getD 2 d0).ii ∧ (v1.getD 2 d0).ii < (((v1.getD 0 d0).ll).length : Int) then
 if (((((v1.getD 0 d0).ll).getD ((v1.getD 2 d0).ii).toNat []).getD 0 d0).ii != (v1.getD 1 d0).ii) = true then
 .ret [.i (-1 : Int)]
 else
 if 68 = 68 ∧ 0 ≤ (v1.getD 2 d0).ii ∧ (v1.getD 2 d0).ii < (((v1.getD 0 d0).ll).length : Int) then
 (r_laws_markText [.i (IntKind.i64.wrap ((v1.getD 1 d0).ii + (1 : Int)))]).bindR fun r2 =>
 if (!(((((v1.getD 0 d0).ll).getD ((v1.getD 2 d0).ii).toNat []).getD 1 d0).ss == (r2.getD 0 d0).ss)) = true then
 .ret [.i (-1 : Int)]
 else
 .norm [.sl ((v1.getD 0 d0).ll), .i (IntKind.i64.wrap ((IntKind.i64.wrap ((v1.getD 1 d0).ii + (1 : Int))) + (1 : Int))), .i ((v1.getD 2 d0).ii)]
 else
 .fail
 else
 .fail) 1 fun v3 =>
 .norm [.sl ((v3.getD 0 d0).ll), .i ((v3.getD 1 d0).ii), .i (IntKind.i64.wrap ((v3.getD 2 d0).ii + (1 : Int)))]
 else
 .ex 0 [.i ((v1.getD 1 d0).ii)]
noncomputable def E_laws_heldRootS (a : List DC) : Out :=
 Out.andThenB (Loop E_laws_heldRootSL1 [.sl ((a.getD 0 d0).ll), .i ((a.getD 1 d0).ii), .i (0 : Int)]) 0 fun v4 =>
 .ret [.i ((v4.getD 0 d0).ii)]
theorem eq_laws_heldRootS a : r_laws_heldRootS a = E_laws_heldRootS a := (Run_eq cfg 36 _ a).trans (by kernel_rfl)
noncomputable def E_laws_heldDirSL1 : List DC → Out := fun v1 =>
 if (decide ((v1.getD 2 d0).ii < (((v1.getD 0 d0).ll).length : Int))) = true then
 Out.andThenB (if 108 = 108 ∧ 0 ≤ (v1.getD 2 d0).ii ∧ (v1.getD 2 d0).ii < (((v1.getD 0 d0).ll).length : Int) then
 (r_laws_markText [.i ((v1.getD 1 d0).ii)]).bindR fun r2 =>
 if (!(((((v1.getD 0 d0).ll).getD ((v1.getD 2 d0).ii).toNat []).getD 0 d0).ss == (r2.getD 0 d0).ss)) = true then
 .ret [.i (-1 : Int)]
 else
 if 108 = 108 ∧ 0 ≤ (v1.getD 2 d0).ii ∧ (v1.getD 2 d0).ii < (((v1.getD 0 d0).ll).length : Int) then
 (r_laws_heldArgS [.sl (((((v1.getD 0 d0).ll).getD ((v1.getD 2 d0).ii).toNat []).getD 1 d0).ll), .i (IntKind.i64.wrap ((v1.getD 1 d0).ii + (1 : Int)))]).bindR fun r3 =>
 if (decide ((r3.getD 0 d0).ii < (0 : Int))) = true then
 .ret [.i (-1 : Int)]
 else
 .norm [.sl ((v1.getD 0 d0).ll), .i ((r3.getD 0 d0).ii), .i ((v1.getD 2 d0).ii)]
 else
 .fail
 else
 .fail) 1 fun v4 =>
 .norm [.sl ((v4.getD 0 d0).ll), .i ((v4.getD 1 d0).ii), .i (IntKind.i64.wrap ((v4.getD 2 d0).ii + (1 : Int)))]
 else
 .ex 0 [.i ((v1.getD 1 d0).ii)]
noncomputable def E_laws_heldDirS (a : List DC) : Out :=
 Out.andThenB (Loop E_laws_heldDirSL1 [.sl ((a.getD 0 d0).ll), .i ((a.getD 1 d0).ii), .i (0 : Int)]) 0 fun v5 =>
 .ret [.i ((v5.getD 0 d0).ii)]
theorem eq_laws_heldDirS a : r_laws_heldDirS a = E_laws_heldDirS a := (Run_eq cfg 37 _ a).trans (by kernel_rfl)
noncomputable def E_laws_szStringSL1 : List DC → Out := fun v1 =>
 if (decide ((v1.getD 2 d0).ii < (((v1.getD 0 d0).ll).length : Int))) = true then
 Out.andThenB (if 9 = 9 ∧ 0 ≤ (v1.getD 2 d0).ii ∧ (v1.getD 2 d0).ii < (((v1.getD 0 d0).ll).length : Int) then
 if (decide ((IntKind.i64.wrap ((v1.getD 1 d0).ii - ((((((v1.getD 0 d0).ll).getD ((v1.getD 2 d0).ii).toNat []).getD 0 d0).ss).length : Int))) < (0 : Int))) = true then
 .ret [.i (-1 : Int)]
 else
 .norm [.sl ((v1.getD 0 d0).ll), .i (IntKind.i64.wrap ((v1.getD 1 d0).ii - ((((((v1.getD 0 d0).ll).getD ((v1.getD 2 d0).ii).toNat []).getD 0 d0).ss).length : Int))), .i ((v1.getD 2 d0).ii)]
 else
 .fail) 1 fun v2 =>
 .norm [.sl ((v2.getD 0 d0).ll), .i ((v2.getD 1 d0).ii), .i (IntKind.i64.wrap ((v2.getD 2 d0).ii + (1 : Int)))]
 else
 .ex 0 [.i ((v1.getD 1 d0).ii)]
noncomputable def E_laws_szStringS (a : List DC) : Out :=
 if (decide ((IntKind.i64.wrap ((a.getD 1 d0).ii - (((a.getD 0 d0).ll).length : Int))) < (0 : Int))) = true then
 .ret [.i (-1 : Int)]
 else
 Out.andThenB (Loop E_laws_szStringSL1 [.sl ((a.getD 0 d0).ll), .i (IntKind.i64.wrap ((a.getD 1 d0).ii - (((a.getD 0 d0).ll).length : Int))), .i (0 : Int)]) 0 fun v3 =>
 .ret [.i ((v3.getD 0 d0).ii)]
theorem eq_laws_szStringS a : r_laws_szStringS a = E_laws_szStringS a := (Run_eq cfg 44 _ a).trans (by kernel_rfl)
noncomputable def E_laws_szFieldDefSL1 : List DC → Out := fun v1 =>
 if (decide ((v1.getD 2 d0).ii < (((v1.getD 0 d0).ll).length : Int))) = true then
 Out.andThenB (if 118 = 118 ∧ 0 ≤ (v1.getD 2 d0).ii ∧ (v1.getD 2 d0).ii < (((v1.getD 0 d0).ll).length : Int) then
 (r_laws_szFieldDef [.s (((((v1.getD 0 d0).ll).getD ((v1.getD 2 d0).ii).toNat []).getD 0 d0).ss), .s (((((v1.getD 0 d0).ll).getD ((v1.getD 2 d0).ii).toNat []).getD 1 d0).ss), .sl (((((v1.getD 0 d0).ll).getD ((v1.getD 2 d0).ii).toNat []).getD 2 d0).ll), .s (((((v1.getD 0 d0).ll).getD ((v1.getD 2 d0).ii).toNat []).getD 3 d0).ss), .s (((((v1.getD 0 d0).ll).getD ((v1.getD 2 d0).ii).toNat []).getD 4 d0).ss), .sl (((((v1.getD 0 d0).ll).getD ((v1.getD 2 d0).ii).toNat []).getD 5 d0).ll), .i ((v1.getD 1 d0).ii)]).bindR fun r2 =>
 if (decide ((r2.getD 0 d0).ii < (0 : Int))) = true then
 .ret [.i (-1 : Int)]
 else
 .norm [.sl ((v1.getD 0 d0).ll), .i ((r2.getD 0 d0).ii), .i ((v1.getD 2 d0).ii)]
 else
 .fail) 1 fun v3 =>
 .norm [.sl ((v3.getD 0 d0).ll), .i ((v3.getD 1 d0).ii), .i (IntKind.i64.wrap ((v3.getD 2 d0).ii + (1 : Int)))]
 else
 .ex 0 [.i ((v1.getD 1 d0).ii)]
noncomputable def E_laws_szFieldDefS (a : List DC) : Out :=
 if (decide ((IntKind.i64.wrap ((a.getD 1 d0).ii - (((a.getD 0 d0).ll).length : Int))) < (0 : Int))) = true then
 .ret [.i (-1 : Int)]
 else
 Out.andThenB (Loop E_laws_szFieldDefSL1 [.sl ((a.getD 0 d0).ll), .i (IntKind.i64.wrap ((a.getD 1 d0).ii - (((a.getD 0 d0).ll).length : Int))), .i (0 : Int)]) 0 fun v4 =>
 .ret [.i ((v4.getD 0 d0).ii)]
theorem eq_laws_szFieldDefS a : r_laws_szFieldDefS a = E_laws_szFieldDefS a := (Run_eq cfg 45 _ a).trans (by kernel_rfl)
noncomputable def E_laws_szInDefSL1 : List DC → Out := fun v1 =>
 if (decide ((v1.getD 2 d0).ii < (((v1.getD 0 d0).ll).length : Int))) = true then
 Out.andThenB (if 124 = 124 ∧ 0 ≤ (v1.getD 2 d0).ii ∧ (v1.getD 2 d0).ii < (((v1.getD 0 d0).ll).length : Int) then
 (r_laws_szInDef [.s (((((v1.getD 0 d0).ll).getD ((v1.getD 2 d0).ii).toNat []).getD 0 d0).ss), .s (((((v1.getD 0 d0).ll).getD ((v1.getD 2 d0).ii).toNat []).getD 1 d0).ss), .s (((((v1.getD 0 d0).ll).getD ((v1.getD 2 d0).ii).toNat []).getD 2 d0).ss), .s (((((v1.getD 0 d0).ll).getD ((v1.getD 2 d0).ii).toNat []).getD 3 d0).ss), .b (((((v1.getD 0 d0).ll).getD ((v1.getD 2 d0).ii).toNat []).getD 4 d0).bb), .i (((((v1.getD 0 d0).ll).getD ((v1.getD 2 d0).ii).toNat []).getD 5 d0).ii), .s (((((v1.getD 0 d0).ll).getD ((v1.getD 2 d0).ii).toNat []).getD 6 d0).ss), .sl (((((v1.getD 0 d0).ll).getD ((v1.getD 2 d0).ii).toNat []).getD 7 d0).ll), .sl (((((v1.getD 0 d0).ll).getD ((v1.getD 2 d0).ii).toNat []).getD 8 d0).ll), .sl (((((v1.getD 0 d0).ll).getD ((v1.getD 2 d0).ii).toNat []).getD 9 d0).ll), .i ((v1.getD 1 d0).ii)]).bindR fun r2 =>
 if (decide ((r2.getD 0 d0).ii < (0 : Int))) = true then
 .ret [.i (-1 : Int)]
 else
 .norm [.sl ((v1.getD 0 d0).ll), .i ((r2.getD 0 d0).ii), .i ((v1.getD 2 d0).ii)]
 else
 .fail) 1 fun v3 =>
 .norm [.sl ((v3.getD 0 d0).ll), .i ((v3.getD 1 d0).ii), .i (IntKind.i64.wrap ((v3.getD 2 d0).ii + (1 : Int)))]
 else
 .ex 0 [.i ((v1.getD 1 d0).ii)]
noncomputable def E_laws_szInDefS (a : List DC) : Out :=
 if (decide ((IntKind.i64.wrap ((a.getD 1 d0).ii - (((a.getD 0 d0).ll).length : Int))) < (0 : Int))) = true then
 .ret [.i (-1 : Int)]
 else
 Out.andThenB (Loop E_laws_szInDefSL1 [.sl ((a.getD 0 d0).ll), .i (IntKind.i64.wrap ((a.getD 1 d0).ii - (((a.getD 0 d0).ll).length : Int))), .i (0 : Int)]) 0 fun v4 =>
 .ret [.i ((v4.getD 0 d0).ii)]
theorem eq_laws_szInDefS a : r_laws_szInDefS a = E_laws_szInDefS a := (Run_eq cfg 46 _ a).trans (by kernel_rfl)
noncomputable def E_laws_szEnumDefSL1 : List DC → Out := fun v1 =>
 if (decide ((v1.getD 2 d0).ii < (((v1.getD 0 d0).ll).length : Int))) = true then
 Out.andThenB (if 127 = 127 ∧ 0 ≤ (v1.getD 2 d0).ii ∧ (v1.getD 2 d0).ii < (((v1.getD 0 d0).ll).length : Int) then
 (r_laws_szEnumDef [.s (((((v1.getD 0 d0).ll).getD ((v1.getD 2 d0).ii).toNat []).getD 0 d0).ss), .s (((((v1.getD 0 d0).ll).getD ((v1.getD 2 d0).ii).toNat []).getD 1 d0).ss), .sl (((((v1.getD 0 d0).ll).getD ((v1.getD 2 d0).ii).toNat []).getD 2 d0).ll), .i ((v1.getD 1 d0).ii)]).bindR fun r2 =>
 if (decide ((r2.getD 0 d0).ii < (0 : Int))) = true then
 .ret [.i (-1 : Int)]
 else
 .norm [.sl ((v1.getD 0 d0).ll), .i ((r2.getD 0 d0).ii), .i ((v1.getD 2 d0).ii)]
 else
 .fail) 1 fun v3 =>
 .norm [.sl ((v3.getD 0 d0).ll), .i ((v3.getD 1 d0).ii), .i (IntKind.i64.wrap ((v3.getD 2 d0).ii + (1 : Int)))]
 else
 .ex 0 [.i ((v1.getD 1 d0).ii)]
noncomputable def E_laws_szEnumDefS (a : List DC) : Out :=
 if (decide ((IntKind.i64.wrap ((a.getD 1 d0).ii - (((a.getD 0 d0).ll).length : Int))) < (0 : Int))) = true then
 .ret [.i (-1 : Int)]
 else
 Out.andThenB (Loop E_laws_szEnumDefSL1 [.sl ((a.getD 0 d0).ll), .i (IntKind.i64.wrap ((a.getD 1 d0).ii - (((a.getD 0 d0).ll).length : Int))), .i (0 : Int)]) 0 fun v4 =>
 .ret [.i ((v4.getD 0 d0).ii)]
theorem eq_laws_szEnumDefS a : r_laws_szEnumDefS a = E_laws_szEnumDefS a := (Run_eq cfg 47 _ a).trans (by kernel_rfl)
noncomputable def E_laws_szRootSL1 : List DC → Out := fun v1 =>
 if (decide ((v1.getD 2 d0).ii < (((v1.getD 0 d0).ll).length : Int))) = true then
 Out.andThenB (if 129 = 129 ∧ 0 ≤ (v1.getD 2 d0).ii ∧ (v1.getD 2 d0).ii < (((v1.getD 0 d0).ll).length : Int) then
 (r_laws_szRoot [.i (((((v1.getD 0 d0).ll).getD ((v1.getD 2 d0).ii).toNat []).getD 0 d0).ii), .s (((((v1.getD 0 d0).ll).getD ((v1.getD 2 d0).ii).toNat []).getD 1 d0).ss), .i ((v1.getD 1 d0).ii)]).bindR fun r2 =>
 if (decide ((r2.getD 0 d0).ii < (0 : Int))) = true then
 .ret [.i (-1 : Int)]
 else
 .norm [.sl ((v1.getD 0 d0).ll), .i ((r2.getD 0 d0).ii), .i ((v1.getD 2 d0).ii)]
 else
 .fail) 1 fun v3 =>
 .norm [.sl ((v3.getD 0 d0).ll), .i ((v3.getD 1 d0).ii), .i (IntKind.i64.wrap ((v3.getD 2 d0).ii + (1 : Int)))]
 else
 .ex 0 [.i ((v1.getD 1 d0).ii)]
noncomputable def E_laws_szRootS (a : List DC) : Out :=
 if (decide ((IntKind.i64.wrap ((a.getD 1 d0).ii - (((a.getD 0 d0).ll).length : Int))) < (0 : Int))) = true then
 .ret [.i (-1 : Int)]
 else
 Out.andThenB (Loop E_laws_szRootSL1 [.sl ((a.getD 0 d0).ll), .i (IntKind.i64.wrap ((a.getD 1 d0).ii - (((a.getD 0 d0).ll).length : Int))), .i (0 : Int)]) 0 fun v4 =>
 .ret [.i ((v4.getD 0 d0).ii)]
theorem eq_laws_szRootS a : r_laws_szRootS a = E_laws_szRootS a := (Run_eq cfg 48 _ a).trans (by kernel_rfl)
noncomputable def E_laws_szDirSL1 : List DC → Out := fun v1 =>
 if (decide ((v1.getD 2 d0).ii < (((v1.getD 0 d0).ll).length : Int))) = true then
 Out.andThenB (if 133 = 133 ∧ 0 ≤ (v1.getD 2 d0).ii ∧ (v1.getD 2 d0).ii < (((v1.getD 0 d0).ll).length : Int) then
 (r_laws_szDir [.s (((((v1.getD 0 d0).ll).getD ((v1.getD 2 d0).ii).toNat []).getD 0 d0).ss), .sl (((((v1.getD 0 d0).ll).getD ((v1.getD 2 d0).ii).toNat []).getD 1 d0).ll), .i ((v1.getD 1 d0).ii)]).bindR fun r2 =>
 if (decide ((r2.getD 0 d0).ii < (0 : Int))) = true then
 .ret [.i (-1 : Int)]
 else
 .norm [.sl ((v1.getD 0 d0).ll), .i ((r2.getD 0 d0).ii), .i ((v1.getD 2 d0).ii)]
 else
 .fail) 1 fun v3 =>
 .norm [.sl ((v3.getD 0 d0).ll), .i ((v3.getD 1 d0).ii), .i (IntKind.i64.wrap ((v3.getD 2 d0).ii + (1 : Int)))]
 else
 .ex 0 [.i ((v1.getD 1 d0).ii)]
noncomputable def E_laws_szDirS (a : List DC) : Out :=
 if (decide ((IntKind.i64.wrap ((a.getD 1 d0).ii - (((a.getD 0 d0).ll).length : Int))) < (0 : Int))) = true then
 .ret [.i (-1 : Int)]
 else
 Out.andThenB (Loop E_laws_szDirSL1 [.sl ((a.getD 0 d0).ll), .i (IntKind.i64.wrap ((a.getD 1 d0).ii - (((a.getD 0 d0).ll).length : Int))), .i (0 : Int)]) 0 fun v4 =>
 .ret [.i ((v4.getD 0 d0).ii)]
theorem eq_laws_szDirS a : r_laws_szDirS a = E_laws_szDirS a := (Run_eq cfg 49 _ a).trans (by kernel_rfl)
noncomputable def E_laws_toStringSL1 : List DC → Out := fun v1 =>
 if (decide ((v1.getD 2 d0).ii < (((v1.getD 0 d0).ll).length : Int))) = true then
 Out.andThenB (if 9 = 9 ∧ 0 ≤ (v1.getD 2 d0).ii ∧ (v1.getD 2 d0).ii < (((v1.getD 0 d0).ll).length : Int) then
 if 9 = 9 ∧ 0 ≤ (v1.getD 2 d0).ii ∧ (v1.getD 2 d0).ii < (((v1.getD 1 d0).ll).length : Int) then
 .norm [.sl ((v1.getD 0 d0).ll), .sl (((v1.getD 1 d0).ll).set (((v1.getD 2 d0).ii).toNat) (setRunD (((v1.getD 1 d0).ll).getD (((v1.getD 2 d0).ii).toNat) []) 0 [DC.s (((((v1.getD 0 d0).ll).getD ((v1.getD 2 d0).ii).toNat []).getD 0 d0).ss)])), .i ((v1.getD 2 d0).ii)]
 else
 .fail
 else
 .fail) 1 fun v2 =>
 .norm [.sl ((v2.getD 0 d0).ll), .sl ((v2.getD 1 d0).ll), .i (IntKind.i64.wrap ((v2.getD 2 d0).ii + (1 : Int)))]
 else
 .ex 0 [.sl ((v1.getD 1 d0).ll)]
noncomputable def E_laws_toStringS (a : List DC) : Out :=
 if 0 ≤ (((a.getD 0 d0).ll).length : Int) ∧ (((a.getD 0 d0).ll).length : Int) < (LIM : Int) ∧ (((a.getD 0 d0).ll).length : Int) = (((a.getD 0 d0).ll).length : Int) ∧ 16 ≤ 1024 ∧ 0 < 1 ∧ dp 9 = false then
 Out.andThenB (Loop E_laws_toStringSL1 [.sl ((a.getD 0 d0).ll), .sl (List.replicate (((a.getD 0 d0).ll).length : Int).toNat [DC.s []]), .i (0 : Int)]) 0 fun v3 =>
 .ret [.sl ((v3.getD 0 d0).ll)]
 else
 .fail
theorem eq_laws_toStringS a : r_laws_toStringS a = E_laws_toStringS a := (Run_eq cfg 54 _ a).trans (by kernel_rfl)
noncomputable def E_laws_toFieldDefSL1 : List DC → Out := fun v1 =>
 if (decide ((v1.getD 2 d0).ii < (((v1.getD 0 d0).ll).length : Int))) = true then
 Out.andThenB (if 118 = 118 ∧ 0 ≤ (v1.getD 2 d0).ii ∧ (v1.getD 2 d0).ii < (((v1.getD 0 d0).ll).length : Int) then
 (r_laws_toFieldDef [.s (((((v1.getD 0 d0).ll).getD ((v1.getD 2 d0).ii).toNat []).getD 0 d0).ss), .s (((((v1.getD 0 d0).ll).getD ((v1.getD 2 d0).ii).toNat []).getD 1 d0).ss), .sl (((((v1.getD 0 d0).ll).getD ((v1.getD 2 d0).ii).toNat []).getD 2 d0).ll), .s (((((v1.getD 0 d0).ll).getD ((v1.getD 2 d0).ii).toNat []).getD 3 d0).ss), .s (((((v1.getD 0 d0).ll).getD ((v1.getD 2 d0).ii).toNat []).getD 4 d0).ss), .sl (((((v1.getD 0 d0).ll).getD ((v1.getD 2 d0).ii).toNat []).getD 5 d0).ll)]).bindR fun r2 =>
 if 97 = 97 ∧ 0 ≤ (v1.getD 2 d0).ii ∧ (v1.getD 2 d0).ii < (((v1.getD 1 d0).ll).length : Int) then
 .norm [.sl ((v1.getD 0 d0).ll), .sl (((v1.getD 1 d0).ll).set (((v1.getD 2 d0).ii).toNat) (setRunD (((v1.getD 1 d0).ll).getD (((v1.getD 2 d0).ii).toNat) []) 0 [DC.s ((r2.getD 0 d0).ss), DC.s ((r2.getD 1 d0).ss), DC.sl ((r2.getD 2 d0).ll), DC.s ((r2.getD 3 d0).ss), DC.s ((r2.getD 4 d0).ss), DC.sl ((r2.getD 5 d0).ll)])), .i ((v1.getD 2 d0).ii)]
 else
 .fail
 else
 .fail) 1 fun v3 =>
 .norm [.sl ((v3.getD 0 d0).ll), .sl ((v3.getD 1 d0).ll), .i (IntKind.i64.wrap ((v3.getD 2 d0).ii + (1 : Int)))]
 else
 .ex 0 [.sl ((v1.getD 1 d0).ll)]
noncomputable def E_laws_toFieldDefS (a : List DC) : Out :=
 if 0 ≤ (((a.getD 0 d0).ll).length : Int) ∧ (((a.getD 0 d0).ll).length : Int) < (LIM : Int) ∧ (((a.getD 0 d0).ll).length : Int) = (((a.getD 0 d0).ll).length : Int) ∧ 112 ≤ 1024 ∧ 0 < 6 ∧ dp 97 = false then
 Out.andThenB (Loop E_laws_toFieldDefSL1 [.sl ((a.getD 0 d0).ll), .sl (List.replicate (((a.getD 0 d0).ll).length : Int).toNat [DC.s [], DC.s [], DC.sl [], DC.s [], DC.s [], DC.sl []]), .i (0 : Int)]) 0 fun v4 =>
 .ret [.sl ((v4.getD 0 d0).ll)]
 else
 .fail
theorem eq_laws_toFieldDefS a : r_laws_toFieldDefS a = E_laws_toFieldDefS a := (Run_eq cfg 55 _ a).trans (by kernel_rfl)
noncomputable def E_laws_toInDefSL1 : List DC → Out := fun v1 =>
 if (decide ((v1.getD 2 d0).ii < (((v1.getD 0 d0).ll).length : Int))) = true then
 Out.andThenB (if 124 = 124 ∧ 0 ≤ (v1.getD 2 d0).ii ∧ (v1.getD 2 d0).ii < (((v1.getD 0 d0).ll).length : Int) then
 (r_laws_toInDef [.s (((((v1.getD 0 d0).ll).getD ((v1.getD 2 d0).ii).toNat []).getD 0 d0).ss), .s (((((v1.getD 0 d0).ll).getD ((v1.getD 2 d0).ii).toNat []).getD 1 d0).ss), .s (((((v1.getD 0 d0).ll).getD ((v1.getD 2 d0).ii).toNat []).getD 2 d0).ss), .s (((((v1.getD 0 d0).ll).getD ((v1.getD 2 d0).ii).toNat []).getD 3 d0).ss), .b (((((v1.getD 0 d0).ll).getD ((v1.getD 2 d0).ii).toNat []).getD 4 d0).bb), .i (((((v1.getD 0 d0).ll).getD ((v1.getD 2 d0).ii).toNat []).getD 5 d0).ii), .s (((((v1.getD 0 d0).ll).getD ((v1.getD 2 d0).ii).toNat []).getD 6 d0).ss), .sl (((((v1.getD 0 d0).ll).getD ((v1.getD 2 d0).ii).toNat []).getD 7 d0).ll), .sl (((((v1.getD 0 d0).ll).getD ((v1.getD 2 d0).ii).toNat []).getD 8 d0).ll), .sl (((((v1.getD 0 d0).ll).getD ((v1.getD 2 d0).ii).toNat []).getD 9 d0).ll)]).bindR fun r2 =>
 if 102 = 102 ∧ 0 ≤ (v1.getD 2 d0).ii ∧ (v1.getD 2 d0).ii < (((v1.getD 1 d0).ll).length : Int) then
 .norm [.sl ((v1.getD 0 d0).ll), .sl (((v1.getD 1 d0).ll).set (((v1.getD 2 d0).ii).toNat) (setRunD (((v1.getD 1 d0).ll).getD (((v1.getD 2 d0).ii).toNat) []) 0 [DC.s ((r2.getD 0 d0).ss), DC.s ((r2.getD 1 d0).ss), DC.s ((r2.getD 2 d0).ss), DC.s ((r2.getD 3 d0).ss), DC.b ((r2.getD 4 d0).bb), DC.i ((r2.getD 5 d0).ii), DC.s ((r2.getD 6 d0).ss), DC.sl ((r2.getD 7 d0).ll), DC.sl ((r2.getD 8 d0).ll), DC.sl ((r2.getD 9 d0).ll)])), .i ((v1.getD 2 d0).ii)]
 else
 .fail
 else
 .fail) 1 fun v3 =>
 .norm [.sl ((v3.getD 0 d0).ll), .sl ((v3.getD 1 d0).ll), .i (IntKind.i64.wrap ((v3.getD 2 d0).ii + (1 : Int)))]
 else
 .ex 0 [.sl ((v1.getD 1 d0).ll)]
noncomputable def E_laws_toInDefS (a : List DC) : Out :=
 if 0 ≤ (((a.getD 0 d0).ll).length : Int) ∧ (((a.getD 0 d0).ll).length : Int) < (LIM : Int) ∧ (((a.getD 0 d0).ll).length : Int) = (((a.getD 0 d0).ll).length : Int) ∧ 168 ≤ 1024 ∧ 0 < 10 ∧ dp 102 = false then
 Out.andThenB (Loop E_laws_toInDefSL1 [.sl ((a.getD 0 d0).ll), .sl (List.replicate (((a.getD 0 d0).ll).length : Int).toNat [DC.s [], DC.s [], DC.s [], DC.s [], DC.b false, DC.i 0, DC.s [], DC.sl [], DC.sl [], DC.sl []]), .i (0 : Int)]) 0 fun v4 =>
 .ret [.sl ((v4.getD 0 d0).ll)]
 else
 .fail
theorem eq_laws_toInDefS a : r_laws_toInDefS a = E_laws_toInDefS a := (Run_eq cfg 56 _ a).trans (by kernel_rfl)
noncomputable def E_laws_toEnumDefSL1 : List DC → Out := fun v1 =>
 if (decide ((v1.getD 2 d0).ii < (((v1.getD 0 d0).ll).length : Int))) = true then
 Out.andThenB (if 127 = 127 ∧ 0 ≤ (v1.getD 2 d0).ii ∧ (v1.getD 2 d0).ii < (((v1.getD 0 d0).ll).length : Int) then
 (r_laws_toEnumDef [.s (((((v1.getD 0 d0).ll).getD ((v1.getD 2 d0).ii).toNat []).getD 0 d0).ss), .s (((((v1.getD 0 d0).ll).getD ((v1.getD 2 d0).ii).toNat []).getD 1 d0).ss), .sl (((((v1.getD 0 d0).ll).getD ((v1.getD 2 d0).ii).toNat []).getD 2 d0).ll)]).bindR fun r2 =>
 if 105 = 105 ∧ 0 ≤ (v1.getD 2 d0).ii ∧ (v1.getD 2 d0).ii < (((v1.getD 1 d0).ll).length : Int) then
 .norm [.sl ((v1.getD 0 d0).ll), .sl (((v1.getD 1 d0).ll).set (((v1.getD 2 d0).ii).toNat) (setRunD (((v1.getD 1 d0).ll).getD (((v1.getD 2 d0).ii).toNat) []) 0 [DC.s ((r2.getD 0 d0).ss), DC.s ((r2.getD 1 d0).ss), DC.sl ((r2.getD 2 d0).ll)])), .i ((v1.getD 2 d0).ii)]
 else
 .fail
 else
 .fail) 1 fun v3 =>
 .norm [.sl ((v3.getD 0 d0).ll), .sl ((v3.getD 1 d0).ll), .i (IntKind.i64.wrap ((v3.getD 2 d0).ii + (1 : Int)))]
 else
 .ex 0 [.sl ((v1.getD 1 d0).ll)]
noncomputable def E_laws_toEnumDefS (a : List DC) : Out :=
 if 0 ≤ (((a.getD 0 d0).ll).length : Int) ∧ (((a.getD 0 d0).ll).length : Int) < (LIM : Int) ∧ (((a.getD 0 d0).ll).length : Int) = (((a.getD 0 d0).ll).length : Int) ∧ 56 ≤ 1024 ∧ 0 < 3 ∧ dp 105 = false then
 Out.andThenB (Loop E_laws_toEnumDefSL1 [.sl ((a.getD 0 d0).ll), .sl (List.replicate (((a.getD 0 d0).ll).length : Int).toNat [DC.s [], DC.s [], DC.sl []]), .i (0 : Int)]) 0 fun v4 =>
 .ret [.sl ((v4.getD 0 d0).ll)]
 else
 .fail
theorem eq_laws_toEnumDefS a : r_laws_toEnumDefS a = E_laws_toEnumDefS a := (Run_eq cfg 57 _ a).trans (by kernel_rfl)
noncomputable def E_laws_toRootSL1 : List DC → Out := fun v1 =>
 if (decide ((v1.getD 2 d0).ii < (((v1.getD 0 d0).ll).length : Int))) = true then
 Out.andThenB (if 129 = 129 ∧ 0 ≤ (v1.getD 2 d0).ii ∧ (v1.getD 2 d0).ii < (((v1.getD 0 d0).ll).length : Int) then
 (r_laws_toRoot [.i (((((v1.getD 0 d0).ll).getD ((v1.getD 2 d0).ii).toNat []).getD 0 d0).ii), .s (((((v1.getD 0 d0).ll).getD ((v1.getD 2 d0).ii).toNat []).getD 1 d0).ss)]).bindR fun r2 =>
 if 68 = 68 ∧ 0 ≤ (v1.getD 2 d0).ii ∧ (v1.getD 2 d0).ii < (((v1.getD 1 d0).ll).length : Int) then
 .norm [.sl ((v1.getD 0 d0).ll), .sl (((v1.getD 1 d0).ll).set (((v1.getD 2 d0).ii).toNat) (setRunD (((v1.getD 1 d0).ll).getD (((v1.getD 2 d0).ii).toNat) []) 0 [DC.i ((r2.getD 0 d0).ii), DC.s ((r2.getD 1 d0).ss)])), .i ((v1.getD 2 d0).ii)]
 else
 .fail
 else
 .fail) 1 fun v3 =>
 .norm [.sl ((v3.getD 0 d0).ll), .sl ((v3.getD 1 d0).ll), .i (IntKind.i64.wrap ((v3.getD 2 d0).ii + (1 : Int)))]
 else
 .ex 0 [.sl ((v1.getD 1 d0).ll)]
noncomputable def E_laws_toRootS (a : List DC) : Out :=
 if 0 ≤ (((a.getD 0 d0).ll).length : Int) ∧ (((a.getD 0 d0).ll).length : Int) < (LIM : Int) ∧ (((a.getD 0 d0).ll).length : Int) = (((a.getD 0 d0).ll).length : Int) ∧ 24 ≤ 1024 ∧ 0 < 2 ∧ dp 68 = false then
 Out.andThenB (Loop E_laws_toRootSL1 [.sl ((a.getD 0 d0).ll), .sl (List.replicate (((a.getD 0 d0).ll).length : Int).toNat [DC.i 0, DC.s []]), .i (0 : Int)]) 0 fun v4 =>
 .ret [.sl ((v4.getD 0 d0).ll)]
 else
 .fail
theorem eq_laws_toRootS a : r_laws_toRootS a = E_laws_toRootS a := (Run_eq cfg 58 _ a).trans (by kernel_rfl)
noncomputable def E_laws_toDirSL1 : List DC → Out := fun v1 =>
 if (decide ((v1.getD 2 d0).ii < (((v1.getD 0 d0).ll).length : Int))) = true then
 Out.andThenB (if 133 = 133 ∧ 0 ≤ (v1.getD 2 d0).ii ∧ (v1.getD 2 d0).ii < (((v1.getD 0 d0).ll).length : Int) then
 (r_laws_toDir [.s (((((v1.getD 0 d0).ll).getD ((v1.getD 2 d0).ii).toNat []).getD 0 d0).ss), .sl (((((v1.getD 0 d0).ll).getD ((v1.getD 2 d0).ii).toNat []).getD 1 d0).ll)]).bindR fun r2 =>
 if 108 = 108 ∧ 0 ≤ (v1.getD 2 d0).ii ∧ (v1.getD 2 d0).ii < (((v1.getD 1 d0).ll).length : Int) then
 .norm [.sl ((v1.getD 0 d0).ll), .sl (((v1.getD 1 d0).ll).set (((v1.getD 2 d0).ii).toNat) (setRunD (((v1.getD 1 d0).ll).getD (((v1.getD 2 d0).ii).toNat) []) 0 [DC.s ((r2.getD 0 d0).ss), DC.sl ((r2.getD 1 d0).ll)])), .i ((v1.getD 2 d0).ii)]
 else
 .fail
 else
 .fail) 1 fun v3 =>
 .norm [.sl ((v3.getD 0 d0).ll), .sl ((v3.getD 1 d0).ll), .i (IntKind.i64.wrap ((v3.getD 2 d0).ii + (1 : Int)))]
 else
 .ex 0 [.sl ((v1.getD 1 d0).ll)]
noncomputable def E_laws_toDirS (a : List DC) : Out :=
 if 0 ≤ (((a.getD 0 d0).ll).length : Int) ∧ (((a.getD 0 d0).ll).length : Int) < (LIM : Int) ∧ (((a.getD 0 d0).ll).length : Int) = (((a.getD 0 d0).ll).length : Int) ∧ 40 ≤ 1024 ∧ 0 < 2 ∧ dp 108 = false then
 Out.andThenB (Loop E_laws_toDirSL1 [.sl ((a.getD 0 d0).ll), .sl (List.replicate (((a.getD 0 d0).ll).length : Int).toNat [DC.s [], DC.sl []]), .i (0 : Int)]) 0 fun v4 =>
 .ret [.sl ((v4.getD 0 d0).ll)]
 else
 .fail
theorem eq_laws_toDirS a : r_laws_toDirS a = E_laws_toDirS a := (Run_eq cfg 59 _ a).trans (by kernel_rfl)
noncomputable def E_spec_l13CopyFieldsL1 : List DC → Out := fun v1 =>
 if (decide ((v1.getD 2 d0).ii < (((v1.getD 0 d0).ll).length : Int))) = true then
 Out.andThenB (if 97 = 97 ∧ 0 ≤ (v1.getD 2 d0).ii ∧ (v1.getD 2 d0).ii < (((v1.getD 0 d0).ll).length : Int) then
 (r_spec_l13CopyIns [.sl (((((v1.getD 0 d0).ll).getD ((v1.getD 2 d0).ii).toNat []).getD 2 d0).ll)]).bindR fun r2 =>
 (r_spec_l10Dirs [.sl (((((v1.getD 0 d0).ll).getD ((v1.getD 2 d0).ii).toNat []).getD 5 d0).ll)]).bindR fun r3 =>
 if ((v1.getD 1 d0).ll).length + [[DC.s (((((v1.getD 0 d0).ll).getD ((v1.getD 2 d0).ii).toNat []).getD 0 d0).ss), DC.s (((((v1.getD 0 d0).ll).getD ((v1.getD 2 d0).ii).toNat []).getD 1 d0).ss), DC.sl ((r2.getD 0 d0).ll), DC.s (((((v1.getD 0 d0).ll).getD ((v1.getD 2 d0).ii).toNat []).getD 3 d0).ss), DC.s (((((v1.getD 0 d0).ll).getD ((v1.getD 2 d0).ii).toNat []).getD 4 d0).ss), DC.sl ((r3.getD 0 d0).ll)]].length < LIM ∧ 45 = 45 then
 .norm [.sl ((v1.getD 0 d0).ll), .sl (((v1.getD 1 d0).ll) ++ [[DC.s (((((v1.getD 0 d0).ll).getD ((v1.getD 2 d0).ii).toNat []).getD 0 d0).ss), DC.s (((((v1.getD 0 d0).ll).getD ((v1.getD 2 d0).ii).toNat []).getD 1 d0).ss), DC.sl ((r2.getD 0 d0).ll), DC.s (((((v1.getD 0 d0).ll).getD ((v1.getD 2 d0).ii).toNat []).getD 3 d0).ss), DC.s (((((v1.getD 0 d0).ll).getD ((v1.getD 2 d0).ii).toNat []).getD 4 d0).ss), DC.sl ((r3.getD 0 d0).ll)]]), .i ((v1.getD 2 d0).ii)]
 else
 .fail
 else
 .fail) 1 fun v4 =>
 .norm [.sl ((v4.getD 0 d0).ll), .sl ((v4.getD 1 d0).ll), .i (IntKind.i64.wrap ((v4.getD 2 d0).ii + (1 : Int)))]
 else
 .ex 0 [.sl ((v1.getD 1 d0).ll)]
noncomputable def E_spec_l13CopyFields (a : List DC) : Out :=
 Out.andThenB (Loop E_spec_l13CopyFieldsL1 [.sl ((a.getD 0 d0).ll), .sl [], .i (0 : Int)]) 0 fun v5 =>
 .ret [.sl ((v5.getD 0 d0).ll)]
theorem eq_spec_l13CopyFields a : r_spec_l13CopyFields a = E_spec_l13CopyFields a := (Run_eq cfg 50 _ a).trans (by kernel_rfl)
noncomputable def E_spec_l13CopyInsL1 : List DC → Out := fun v1 =>
 if (decide ((v1.getD 2 d0).ii < (((v1.getD 0 d0).ll).length : Int))) = true then
 Out.andThenB (if 102 = 102 ∧ 0 ≤ (v1.getD 2 d0).ii ∧ (v1.getD 2 d0).ii < (((v1.getD 0 d0).ll).length : Int) then
 (r_spec_l07Copy [.i (((((v1.getD 0 d0).ll).getD ((v1.getD 2 d0).ii).toNat []).getD 5 d0).ii), .s (((((v1.getD 0 d0).ll).getD ((v1.getD 2 d0).ii).toNat []).getD 6 d0).ss), .sl (((((v1.getD 0 d0).ll).getD ((v1.getD 2 d0).ii).toNat []).getD 7 d0).ll), .sl (((((v1.getD 0 d0).ll).getD ((v1.getD 2 d0).ii).toNat []).getD 8 d0).ll)]).bindR fun r2 =>
 (r_spec_l10Dirs [.sl (((((v1.getD 0 d0).ll).getD ((v1.getD 2 d0).ii).toNat []).getD 9 d0).ll)]).bindR fun r3 =>
 if ((v1.getD 1 d0).ll).length + [[DC.s (((((v1.getD 0 d0).ll).getD ((v1.getD 2 d0).ii).toNat []).getD 0 d0).ss), DC.s (((((v1.getD 0 d0).ll).getD ((v1.getD 2 d0).ii).toNat []).getD 1 d0).ss), DC.s (((((v1.getD 0 d0).ll).getD ((v1.getD 2 d0).ii).toNat []).getD 2 d0).ss), DC.s (((((v1.getD 0 d0).ll).getD ((v1.getD 2 d0).ii).toNat []).getD 3 d0).ss), DC.b (((((v1.getD 0 d0).ll).getD ((v1.getD 2 d0).ii).toNat []).getD 4 d0).bb), DC.i ((r2.getD 0 d0).ii), DC.s ((r2.getD 1 d0).ss), DC.sl ((r2.getD 2 d0).ll), DC.sl ((r2.getD 3 d0).ll), DC.sl ((r3.getD 0 d0).ll)]].length < LIM ∧ 46 = 46 then
 .norm [.sl ((v1.getD 0 d0).ll), .sl (((v1.getD 1 d0).ll) ++ [[DC.s (((((v1.getD 0 d0).ll).getD ((v1.getD 2 d0).ii).toNat []).getD 0 d0).ss), DC.s (((((v1.getD 0 d0).ll).getD ((v1.getD 2 d0).ii).toNat []).getD 1 d0).ss), DC.s (((((v1.getD 0 d0).ll).getD ((v1.getD 2 d0).ii).toNat []).getD 2 d0).ss), DC.s (((((v1.getD 0 d0).ll).getD ((v1.getD 2 d0).ii).toNat []).getD 3 d0).ss), DC.b (((((v1.getD 0 d0).ll).getD ((v1.getD 2 d0).ii).toNat []).getD 4 d0).bb), DC.i ((r2.getD 0 d0).ii), DC.s ((r2.getD 1 d0).ss), DC.sl ((r2.getD 2 d0).ll), DC.sl ((r2.getD 3 d0).ll), DC.sl ((r3.getD 0 d0).ll)]]), .i ((v1.getD 2 d0).ii)]
 else
 .fail
 else
 .fail) 1 fun v4 =>
 .norm [.sl ((v4.getD 0 d0).ll), .sl ((v4.getD 1 d0).ll), .i (IntKind.i64.wrap ((v4.getD 2 d0).ii + (1 : Int)))]
 else
 .ex 0 [.sl ((v1.getD 1 d0).ll)]
noncomputable def E_spec_l13CopyIns (a : List DC) : Out :=
 Out.andThenB (Loop E_spec_l13CopyInsL1 [.sl ((a.getD 0 d0).ll), .sl [], .i (0 : Int)]) 0 fun v5 =>
 .ret [.sl ((v5.getD 0 d0).ll)]
theorem eq_spec_l13CopyIns a : r_spec_l13CopyIns a = E_spec_l13CopyIns a := (Run_eq cfg 51 _ a).trans (by kernel_rfl)
noncomputable def E_spec_l13CopyValuesL1 : List DC → Out := fun v1 =>
 if (decide ((v1.getD 2 d0).ii < (((v1.getD 0 d0).ll).length : Int))) = true then
 Out.andThenB (if 105 = 105 ∧ 0 ≤ (v1.getD 2 d0).ii ∧ (v1.getD 2 d0).ii < (((v1.getD 0 d0).ll).length : Int) then
 (r_spec_l10Dirs [.sl (((((v1.getD 0 d0).ll).getD ((v1.getD 2 d0).ii).toNat []).getD 2 d0).ll)]).bindR fun r2 =>
 if ((v1.getD 1 d0).ll).length + [[DC.s (((((v1.getD 0 d0).ll).getD ((v1.getD 2 d0).ii).toNat []).getD 0 d0).ss), DC.s (((((v1.getD 0 d0).ll).getD ((v1.getD 2 d0).ii).toNat []).getD 1 d0).ss), DC.sl ((r2.getD 0 d0).ll)]].length < LIM ∧ 47 = 47 then
 .norm [.sl ((v1.getD 0 d0).ll), .sl (((v1.getD 1 d0).ll) ++ [[DC.s (((((v1.getD 0 d0).ll).getD ((v1.getD 2 d0).ii).toNat []).getD 0 d0).ss), DC.s (((((v1.getD 0 d0).ll).getD ((v1.getD 2 d0).ii).toNat []).getD 1 d0).ss), DC.sl ((r2.getD 0 d0).ll)]]), .i ((v1.getD 2 d0).ii)]
 else
 .fail
 else
 .fail) 1 fun v3 =>
 .norm [.sl ((v3.getD 0 d0).ll), .sl ((v3.getD 1 d0).ll), .i (IntKind.i64.wrap ((v3.getD 2 d0).ii + (1 : Int)))]
 else
 .ex 0 [.sl ((v1.getD 1 d0).ll)]
noncomputable def E_spec_l13CopyValues (a : List DC) : Out :=
 Out.andThenB (Loop E_spec_l13CopyValuesL1 [.sl ((a.getD 0 d0).ll), .sl [], .i (0 : Int)]) 0 fun v4 =>
 .ret [.sl ((v4.getD 0 d0).ll)]
theorem eq_spec_l13CopyValues a : r_spec_l13CopyValues a = E_spec_l13CopyValues a := (Run_eq cfg 52 _ a).trans (by kernel_rfl)
noncomputable def E_spec_l10DirsL1 : List DC → Out := fun v1 =>
 if (decide ((v1.getD 2 d0).ii < (((v1.getD 0 d0).ll).length : Int))) = true then
 Out.andThenB (if 108 = 108 ∧ 0 ≤ (v1.getD 2 d0).ii ∧ (v1.getD 2 d0).ii < (((v1.getD 0 d0).ll).length : Int) then
 if 108 = 108 ∧ 0 ≤ (v1.getD 2 d0).ii ∧ (v1.getD 2 d0).ii < (((v1.getD 0 d0).ll).length : Int) then
 (r_spec_l10Args [.sl (((((v1.getD 0 d0).ll).getD ((v1.getD 2 d0).ii).toNat []).getD 1 d0).ll)]).bindR fun r2 =>
 if ((v1.getD 1 d0).ll).length + [[DC.s (((((v1.getD 0 d0).ll).getD ((v1.getD 2 d0).ii).toNat []).getD 0 d0).ss), DC.sl ((r2.getD 0 d0).ll)]].length < LIM ∧ 48 = 48 then
 .norm [.sl ((v1.getD 0 d0).ll), .sl (((v1.getD 1 d0).ll) ++ [[DC.s (((((v1.getD 0 d0).ll).getD ((v1.getD 2 d0).ii).toNat []).getD 0 d0).ss), DC.sl ((r2.getD 0 d0).ll)]]), .i ((v1.getD 2 d0).ii)]
 else
 .fail
 else
 .fail
 else
 .fail) 1 fun v3 =>
 .norm [.sl ((v3.getD 0 d0).ll), .sl ((v3.getD 1 d0).ll), .i (IntKind.i64.wrap ((v3.getD 2 d0).ii + (1 : Int)))]
 else
 .ex 0 [.sl ((v1.getD 1 d0).ll)]
noncomputable def E_spec_l10Dirs (a : List DC) : Out :=
 Out.andThenB (Loop E_spec_l10DirsL1 [.sl ((a.getD 0 d0).ll), .sl [], .i (0 : Int)]) 0 fun v4 =>
 .ret [.sl ((v4.getD 0 d0).ll)]
theorem eq_spec_l10Dirs a : r_spec_l10Dirs a = E_spec_l10Dirs a := (Run_eq cfg 53 _ a).trans (by kernel_rfl)
noncomputable def E_impl_cloneDef (a : List DC) : Out :=
 (r_slices_Clone_string [.sl ((a.getD 4 d0).ll)]).bindR fun r1 =>
 (r_impl_cloneFields [.sl ((a.getD 5 d0).ll)]).bindR fun r2 =>
 (r_impl_cloneIns [.sl ((a.getD 6 d0).ll)]).bindR fun r3 =>
 (r_impl_cloneEnums [.sl ((a.getD 7 d0).ll)]).bindR fun r4 =>
 (r_slices_Clone_impl_Root [.sl ((a.getD 8 d0).ll)]).bindR fun r5 =>
 (r_impl_cloneDirs [.sl ((a.getD 10 d0).ll)]).bindR fun r6 =>
 .ret [.i ((a.getD 0 d0).ii), .b ((a.getD 1 d0).bb), .s ((a.getD 2 d0).ss), .s ((a.getD 3 d0).ss), .sl ((r1.getD 0 d0).ll), .sl ((r2.getD 0 d0).ll), .sl ((r3.getD 0 d0).ll), .sl ((r4.getD 0 d0).ll), .sl ((r5.getD 0 d0).ll), .b ((a.getD 9 d0).bb), .sl ((r6.getD 0 d0).ll)]
theorem eq_impl_cloneDef a : r_impl_cloneDef a = E_impl_cloneDef a := (Run_eq cfg 60 _ a).trans (by kernel_rfl)
noncomputable def E_laws_eqStringSL1 : List DC → Out := fun v1 =>
 if (decide ((v1.getD 2 d0).ii < (((v1.getD 0 d0).ll).length : Int))) = true then
 Out.andThenB (if 9 = 9 ∧ 0 ≤ (v1.getD 2 d0).ii ∧ (v1.getD 2 d0).ii < (((v1.getD 0 d0).ll).length : Int) then
 if 9 = 9 ∧ 0 ≤ (v1.getD 2 d0).ii ∧ (v1.getD 2 d0).ii < (((v1.getD 1 d0).ll).length : Int) then
 if (!(((((v1.getD 0 d0).ll).getD ((v1.getD 2 d0).ii).toNat []).getD 0 d0).ss == ((((v1.getD 1 d0).ll).getD ((v1.getD 2 d0).ii).toNat []).getD 0 d0).ss)) = true then
 .ret [.b false]
 else
 .norm [.sl ((v1.getD 0 d0).ll), .sl ((v1.getD 1 d0).ll), .i ((v1.getD 2 d0).ii)]
 else
 .fail
 else
 .fail) 1 fun v2 =>
 .norm [.sl ((v2.getD 0 d0).ll), .sl ((v2.getD 1 d0).ll), .i (IntKind.i64.wrap ((v2.getD 2 d0).ii + (1 : Int)))]
 else
 .ex 0 []
noncomputable def E_laws_eqStringS (a : List DC) : Out :=
 if ((((a.getD 0 d0).ll).length : Int) != (((a.getD 1 d0).ll).length : Int)) = true then
 .ret [.b false]
 else
 Out.andThenB (Loop E_laws_eqStringSL1 [.sl ((a.getD 0 d0).ll), .sl ((a.getD 1 d0).ll), .i (0 : Int)]) 0 fun v3 =>
 .ret [.b true]
theorem eq_laws_eqStringS a : r_laws_eqStringS a = E_laws_eqStringS a := (Run_eq cfg 63 _ a).trans (by kernel_rfl)
noncomputable def E_laws_eqFieldDefSL1 : List DC → Out := fun v1 =>
 if (decide ((v1.getD 2 d0).ii < (((v1.getD 0 d0).ll).length : Int))) = true then
 Out.andThenB (if 97 = 97 ∧ 0 ≤ (v1.getD 2 d0).ii ∧ (v1.getD 2 d0).ii < (((v1.getD 0 d0).ll).length : Int) then
 if 97 = 97 ∧ 0 ≤ (v1.getD 2 d0).ii ∧ (v1.getD 2 d0).ii < (((v1.getD 1 d0).ll).length : Int) then
 (r_laws_eqFieldDef [.s (((((v1.getD 0 d0).ll).getD ((v1.getD 2 d0).ii).toNat []).getD 0 d0).ss), .s (((((v1.getD 0 d0).ll).getD ((v1.getD 2 d0).ii).toNat []).getD 1 d0).ss), .sl (((((v1.getD 0 d0).ll).getD ((v1.getD 2 d0).ii).toNat []).getD 2 d0).ll), .s (((((v1.getD 0 d0).ll).getD ((v1.getD 2 d0).ii).toNat []).getD 3 d0).ss), .s (((((v1.getD 0 d0).ll).getD ((v1.getD 2 d0).ii).toNat []).getD 4 d0).ss), .sl (((((v1.getD 0 d0).ll).getD ((v1.getD 2 d0).ii).toNat []).getD 5 d0).ll), .s (((((v1.getD 1 d0).ll).getD ((v1.getD 2 d0).ii).toNat []).getD 0 d0).ss), .s (((((v1.getD 1 d0).ll).getD ((v1.getD 2 d0).ii).toNat []).getD 1 d0).ss), .sl (((((v1.getD 1 d0).ll).getD ((v1.getD 2 d0).ii).toNat []).getD 2 d0).ll), .s (((((v1.getD 1 d0).ll).getD ((v1.getD 2 d0).ii).toNat []).getD 3 d0).ss), .s (((((v1.getD 1 d0).ll).getD ((v1.getD 2 d0).ii).toNat []).getD 4 d0).ss), .sl (((((v1.getD 1 d0).ll).getD ((v1.getD 2 d0).ii).toNat []).getD 5 d0).ll)]).bindR fun r2 =>
 if (!((r2.getD 0 d0).bb)) = true then
 .ret [.b false]
 else
 .norm [.sl ((v1.getD 0 d0).ll), .sl ((v1.getD 1 d0).ll), .i ((v1.getD 2 d0).ii)]
 else
 .fail
 else
 .fail) 1 fun v3 =>
 .norm [.sl ((v3.getD 0 d0).ll), .sl ((v3.getD 1 d0).ll), .i (IntKind.i64.wrap ((v3.getD 2 d0).ii + (1 : Int)))]
 else
 .ex 0 []
noncomputable def E_laws_eqFieldDefS (a : List DC) : Out :=
 if ((((a.getD 0 d0).ll).length : Int) != (((a.getD 1 d0).ll).length : Int)) = true then
 .ret [.b false]
 else
 Out.andThenB (Loop E_laws_eqFieldDefSL1 [.sl ((a.getD 0 d0).ll), .sl ((a.getD 1 d0).ll), .i (0 : Int)]) 0 fun v4 =>
 .ret [.b true]
theorem eq_laws_eqFieldDefS a : r_laws_eqFieldDefS a = E_laws_eqFieldDefS a := (Run_eq cfg 64 _ a).trans (by kernel_rfl)
noncomputable def E_laws_eqInDefSL1 : List DC → Out := fun v1 =>
 if (decide ((v1.getD 2 d0).ii < (((v1.getD 0 d0).ll).length : Int))) = true then
 Out.andThenB (if 102 = 102 ∧ 0 ≤ (v1.getD 2 d0).ii ∧ (v1.getD 2 d0).ii < (((v1.getD 0 d0).ll).length : Int) then
 if 102 = 102 ∧ 0 ≤ (v1.getD 2 d0).ii ∧ (v1.getD 2 d0).ii < (((v1.getD 1 d0).ll).length : Int) then
 (r_laws_eqInDef [.s (((((v1.getD 0 d0).ll).getD ((v1.getD 2 d0).ii).toNat []).getD 0 d0).ss), .s (((((v1.getD 0 d0).ll).getD ((v1.getD 2 d0).ii).toNat []).getD 1 d0).ss), .s (((((v1.getD 0 d0).ll).getD ((v1.getD 2 d0).ii).toNat []).getD 2 d0).ss), .s (((((v1.getD 0 d0).ll).getD ((v1.getD 2 d0).ii).toNat []).getD 3 d0).ss), .b (((((v1.getD 0 d0).ll).getD ((v1.getD 2 d0).ii).toNat []).getD 4 d0).bb), .i (((((v1.getD 0 d0).ll).getD ((v1.getD 2 d0).ii).toNat []).getD 5 d0).ii), .s (((((v1.getD 0 d0).ll).getD ((v1.getD 2 d0).ii).toNat []).getD 6 d0).ss), .sl (((((v1.getD 0 d0).ll).getD ((v1.getD 2 d0).ii).toNat []).getD 7 d0).ll), .sl (((((v1.getD 0 d0).ll).getD ((v1.getD 2 d0).ii).toNat []).getD 8 d0).ll), .sl (((((v1.getD 0 d0).ll).getD ((v1.getD 2 d0).ii).toNat []).getD 9 d0).ll), .s (((((v1.getD 1 d0).ll).getD ((v1.getD 2 d0).ii).toNat []).getD 0 d0).ss), .s (((((v1.getD 1 d0).ll).getD ((v1.getD 2 d0).ii).toNat []).getD 1 d0).ss), .s (((((v1.getD 1 d0).ll).getD ((v1.getD 2 d0).ii).toNat []).getD 2 d0).ss), .s (((((v1.getD 1 d0).ll).getD ((v1.getD 2 d0).ii).toNat []).getD 3 d0).ss), .b (((((v1.getD 1 d0).ll).getD ((v1.getD 2 d0).ii).toNat []).getD 4 d0).bb), .i (((((v1.getD 1 d0).ll).getD ((v1.getD 2 d0).ii).toNat []).getD 5 d0).ii), .s (((((v1.getD 1 d0).ll).getD ((v1.getD 2 d0).ii).toNat []).getD 6 d0).ss), .sl (((((v1.getD 1 d0).ll).getD ((v1.getD 2 d0).ii).toNat []).getD 7 d0).ll), .sl (((((v1.getD 1 d0).ll).getD ((v1.getD 2 d0).ii).toNat []).getD 8 d0).ll), .sl (((((v1.getD 1 d0).ll).getD ((v1.getD 2 d0).ii).toNat []).getD 9 d0).ll)]).bindR fun r2 =>
 if (!((r2.getD 0 d0).bb)) = true then
 .ret [.b false]
 else
 .norm [.sl ((v1.getD 0 d0).ll), .sl ((v1.getD 1 d0).ll), .i ((v1.getD 2 d0).ii)]
 else
 .fail
 else
 .fail) 1 fun v3 =>
 .norm [.sl ((v3.getD 0 d0).ll), .sl ((v3.getD 1 d0).ll), .i (IntKind.i64.wrap ((v3.getD 2 d0).ii + (1 : Int)))]
 else
 .ex 0 []
noncomputable def E_laws_eqInDefS (a : List DC) : Out :=
 if ((((a.getD 0 d0).ll).length : Int) != (((a.getD 1 d0).ll).length : Int)) = true then
 .ret [.b false]
 else
 Out.andThenB (Loop E_laws_eqInDefSL1 [.sl ((a.getD 0 d0).ll), .sl ((a.getD 1 d0).ll), .i (0 : Int)]) 0 fun v4 =>
 .ret [.b true]
theorem eq_laws_eqInDefS a : r_laws_eqInDefS a = E_laws_eqInDefS a := (Run_eq cfg 65 _ a).trans (by kernel_rfl)
noncomputable def E_laws_eqEnumDefSL1 : List DC → Out := fun v1 =>
 if (decide ((v1.getD 2 d0).ii < (((v1.getD 0 d0).ll).length : Int))) = true then
 Out.andThenB (if 105 = 105 ∧ 0 ≤ (v1.getD 2 d0).ii ∧ (v1.getD 2 d0).ii < (((v1.getD 0 d0).ll).length : Int) then
 if 105 = 105 ∧ 0 ≤ (v1.getD 2 d0).ii ∧ (v1.getD 2 d0).ii < (((v1.getD 1 d0).ll).length : Int) then
 (r_laws_eqEnumDef [.s (((((v1.getD 0 d0).ll).getD ((v1.getD 2 d0).ii).toNat []).getD 0 d0).ss), .s (((((v1.getD 0 d0).ll).getD ((v1.getD 2 d0).ii).toNat []).getD 1 d0).ss), .sl (((((v1.getD 0 d0).ll).getD ((v1.getD 2 d0).ii).toNat []).getD 2 d0).ll), .s (((((v1.getD 1 d0).ll).getD ((v1.getD 2 d0).ii).toNat []).getD 0 d0).ss), .s (((((v1.getD 1 d0).ll).getD ((v1.getD 2 d0).ii).toNat []).getD 1 d0).ss), .sl (((((v1.getD 1 d0).ll).getD ((v1.getD 2 d0).ii).toNat []).getD 2 d0).ll)]).bindR fun r2 =>
 if (!((r2.getD 0 d0).bb)) = true then
 .ret [.b false]
 else
 .norm [.sl ((v1.getD 0 d0).ll), .sl ((v1.getD 1 d0).ll), .i ((v1.getD 2 d0).ii)]
 else
 .fail
 else
 .fail) 1 fun v3 =>
 .norm [.sl ((v3.getD 0 d0).ll), .sl ((v3.getD 1 d0).ll), .i (IntKind.i64.wrap ((v3.getD 2 d0).ii + (1 : Int)))]
 else
 .ex 0 []
noncomputable def E_laws_eqEnumDefS (a : List DC) : Out :=
 if ((((a.getD 0 d0).ll).length : Int) != (((a.getD 1 d0).ll).length : Int)) = true then
 .ret [.b false]
 else
 Out.andThenB (Loop E_laws_eqEnumDefSL1 [.sl ((a.getD 0 d0).ll), .sl ((a.getD 1 d0).ll), .i (0 : Int)]) 0 fun v4 =>
 .ret [.b true]
theorem eq_laws_eqEnumDefS a : r_laws_eqEnumDefS a = E_laws_eqEnumDefS a := (Run_eq cfg 66 _ a).trans (by kernel_rfl)
noncomputable def E_laws_eqRootSL1 : List DC → Out := fun v1 =>
 if (decide ((v1.getD 2 d0).ii < (((v1.getD 0 d0).ll).length : Int))) = true then
 Out.andThenB (if 68 = 68 ∧ 0 ≤ (v1.getD 2 d0).ii ∧ (v1.getD 2 d0).ii < (((v1.getD 0 d0).ll).length : Int) then
 if 68 = 68 ∧ 0 ≤ (v1.getD 2 d0).ii ∧ (v1.getD 2 d0).ii < (((v1.getD 1 d0).ll).length : Int) then
 (r_laws_eqRoot [.i (((((v1.getD 0 d0).ll).getD ((v1.getD 2 d0).ii).toNat []).getD 0 d0).ii), .s (((((v1.getD 0 d0).ll).getD ((v1.getD 2 d0).ii).toNat []).getD 1 d0).ss), .i (((((v1.getD 1 d0).ll).getD ((v1.getD 2 d0).ii).toNat []).getD 0 d0).ii), .s (((((v1.getD 1 d0).ll).getD ((v1.getD 2 d0).ii).toNat []).getD 1 d0).ss)]).bindR fun r2 =>
 if (!((r2.getD 0 d0).bb)) = true then
 .ret [.b false]
 else
 .norm [.sl ((v1.getD 0 d0).ll), .sl ((v1.getD 1 d0).ll), .i ((v1.getD 2 d0).ii)]
 else
 .fail
 else
 .fail) 1 fun v3 =>
 .norm [.sl ((v3.getD 0 d0).ll), .sl ((v3.getD 1 d0).ll), .i (IntKind.i64.wrap ((v3.getD 2 d0).ii + (1 : Int)))]
 else
 .ex 0 []
noncomputable def E_laws_eqRootS (a : List DC) : Out :=
 if ((((a.getD 0 d0).ll).length : Int) != (((a.getD 1 d0).ll).length : Int)) = true then
 .ret [.b false]
 else
 Out.andThenB (Loop E_laws_eqRootSL1 [.sl ((a.getD 0 d0).ll), .sl ((a.getD 1 d0).ll), .i (0 : Int)]) 0 fun v4 =>
 .ret [.b true]
theorem eq_laws_eqRootS a : r_laws_eqRootS a = E_laws_eqRootS a := (Run_eq cfg 43 _ a).trans (by kernel_rfl)
noncomputable def E_laws_eqDirSL1 : List DC → Out := fun v1 =>
 if (decide ((v1.getD 2 d0).ii < (((v1.getD 0 d0).ll).length : Int))) = true then
 Out.andThenB (if 108 = 108 ∧ 0 ≤ (v1.getD 2 d0).ii ∧ (v1.getD 2 d0).ii < (((v1.getD 0 d0).ll).length : Int) then
 if 108 = 108 ∧ 0 ≤ (v1.getD 2 d0).ii ∧ (v1.getD 2 d0).ii < (((v1.getD 1 d0).ll).length : Int) then
 (r_laws_eqDir [.s (((((v1.getD 0 d0).ll).getD ((v1.getD 2 d0).ii).toNat []).getD 0 d0).ss), .sl (((((v1.getD 0 d0).ll).getD ((v1.getD 2 d0).ii).toNat []).getD 1 d0).ll), .s (((((v1.getD 1 d0).ll).getD ((v1.getD 2 d0).ii).toNat []).getD 0 d0).ss), .sl (((((v1.getD 1 d0).ll).getD ((v1.getD 2 d0).ii).toNat []).getD 1 d0).ll)]).bindR fun r2 =>
 if (!((r2.getD 0 d0).bb)) = true then
 .ret [.b false]
 else
 .norm [.sl ((v1.getD 0 d0).ll), .sl ((v1.getD 1 d0).ll), .i ((v1.getD 2 d0).ii)]
 else
 .fail
 else
 .fail) 1 fun v3 =>
 .norm [.sl ((v3.getD 0 d0).ll), .sl ((v3.getD 1 d0).ll), .i (IntKind.i64.wrap ((v3.getD 2 d0).ii + (1 : Int)))]
 else
 .ex 0 []
noncomputable def E_laws_eqDirS (a : List DC) : Out :=
 if ((((a.getD 0 d0).ll).length : Int) != (((a.getD 1 d0).ll).length : Int)) = true then
 .ret [.b false]
 else
 Out.andThenB (Loop E_laws_eqDirSL1 [.sl ((a.getD 0 d0).ll), .sl ((a.getD 1 d0).ll), .i (0 : Int)]) 0 fun v4 =>
 .ret [.b true]
theorem eq_laws_eqDirS a : r_laws_eqDirS a = E_laws_eqDirS a := (Run_eq cfg 67 _ a).trans (by kernel_rfl)
noncomputable def E_laws_heldValueSL1 : List DC → Out := fun v1 =>
 if (decide ((v1.getD 2 d0).ii < (((v1.getD 0 d0).ll).length : Int))) = true then
 Out.andThenB (if 100 = 100 ∧ 0 ≤ (v1.getD 2 d0).ii ∧ (v1.getD 2 d0).ii < (((v1.getD 0 d0).ll).length : Int) then
 if (((((v1.getD 0 d0).ll).getD ((v1.getD 2 d0).ii).toNat []).getD 0 d0).ii != (v1.getD 1 d0).ii) = true then
 .ret [.i (-1 : Int)]
 else
 if 100 = 100 ∧ 0 ≤ (v1.getD 2 d0).ii ∧ (v1.getD 2 d0).ii < (((v1.getD 0 d0).ll).length : Int) then
 (r_laws_markText [.i (IntKind.i64.wrap ((v1.getD 1 d0).ii + (1 : Int)))]).bindR fun r2 =>
 if (!(((((v1.getD 0 d0).ll).getD ((v1.getD 2 d0).ii).toNat []).getD 1 d0).ss == (r2.getD 0 d0).ss)) = true then
 .ret [.i (-1 : Int)]
 else
 if 100 = 100 ∧ 0 ≤ (v1.getD 2 d0).ii ∧ (v1.getD 2 d0).ii < (((v1.getD 0 d0).ll).length : Int) then
 (r_laws_heldValueS [.sl (((((v1.getD 0 d0).ll).getD ((v1.getD 2 d0).ii).toNat []).getD 2 d0).ll), .i (IntKind.i64.wrap ((IntKind.i64.wrap ((v1.getD 1 d0).ii + (1 : Int))) + (1 : Int)))]).bindR fun r3 =>
 if (decide ((r3.getD 0 d0).ii < (0 : Int))) = true then
 .ret [.i (-1 : Int)]
 else
 if 100 = 100 ∧ 0 ≤ (v1.getD 2 d0).ii ∧ (v1.getD 2 d0).ii < (((v1.getD 0 d0).ll).length : Int) then
 (r_laws_heldStringS [.sl (((((v1.getD 0 d0).ll).getD ((v1.getD 2 d0).ii).toNat []).getD 3 d0).ll), .i ((r3.getD 0 d0).ii)]).bindR fun r4 =>
 if (decide ((r4.getD 0 d0).ii < (0 : Int))) = true then
 .ret [.i (-1 : Int)]
 else
 .norm [.sl ((v1.getD 0 d0).ll), .i ((r4.getD 0 d0).ii), .i ((v1.getD 2 d0).ii)]
 else
 .fail
 else
 .fail
 else
 .fail
 else
 .fail) 1 fun v5 =>
 .norm [.sl ((v5.getD 0 d0).ll), .i ((v5.getD 1 d0).ii), .i (IntKind.i64.wrap ((v5.getD 2 d0).ii + (1 : Int)))]
 else
 .ex 0 [.i ((v1.getD 1 d0).ii)]
noncomputable def E_laws_heldValueS (a : List DC) : Out :=
 Out.andThenB (Loop E_laws_heldValueSL1 [.sl ((a.getD 0 d0).ll), .i ((a.getD 1 d0).ii), .i (0 : Int)]) 0 fun v6 =>
 .ret [.i ((v6.getD 0 d0).ii)]
theorem eq_laws_heldValueS a : r_laws_heldValueS a = E_laws_heldValueS a := (Run_eq cfg 70 _ a).trans (by kernel_rfl)
noncomputable def E_laws_heldArgSL1 : List DC → Out := fun v1 =>
 if (decide ((v1.getD 2 d0).ii < (((v1.getD 0 d0).ll).length : Int))) = true then
 Out.andThenB (if 149 = 149 ∧ 0 ≤ (v1.getD 2 d0).ii ∧ (v1.getD 2 d0).ii < (((v1.getD 0 d0).ll).length : Int) then
 (r_laws_markText [.i ((v1.getD 1 d0).ii)]).bindR fun r2 =>
 if (!(((((v1.getD 0 d0).ll).getD ((v1.getD 2 d0).ii).toNat []).getD 0 d0).ss == (r2.getD 0 d0).ss)) = true then
 .ret [.i (-1 : Int)]
 else
 if 149 = 149 ∧ 0 ≤ (v1.getD 2 d0).ii ∧ (v1.getD 2 d0).ii < (((v1.getD 0 d0).ll).length : Int) then
 if (((((v1.getD 0 d0).ll).getD ((v1.getD 2 d0).ii).toNat []).getD 1 d0).ii != (IntKind.i64.wrap ((v1.getD 1 d0).ii + (1 : Int)))) = true then
 .ret [.i (-1 : Int)]
 else
 if 149 = 149 ∧ 0 ≤ (v1.getD 2 d0).ii ∧ (v1.getD 2 d0).ii < (((v1.getD 0 d0).ll).length : Int) then
 (r_laws_markText [.i (IntKind.i64.wrap ((IntKind.i64.wrap ((v1.getD 1 d0).ii + (1 : Int))) + (1 : Int)))]).bindR fun r3 =>
 if (!(((((v1.getD 0 d0).ll).getD ((v1.getD 2 d0).ii).toNat []).getD 2 d0).ss == (r3.getD 0 d0).ss)) = true then
 .ret [.i (-1 : Int)]
 else
 if 149 = 149 ∧ 0 ≤ (v1.getD 2 d0).ii ∧ (v1.getD 2 d0).ii < (((v1.getD 0 d0).ll).length : Int) then
 (r_laws_heldValueS [.sl (((((v1.getD 0 d0).ll).getD ((v1.getD 2 d0).ii).toNat []).getD 3 d0).ll), .i (IntKind.i64.wrap ((IntKind.i64.wrap ((IntKind.i64.wrap ((v1.getD 1 d0).ii + (1 : Int))) + (1 : Int))) + (1 : Int)))]).bindR fun r4 =>
 if (decide ((r4.getD 0 d0).ii < (0 : Int))) = true then
 .ret [.i (-1 : Int)]
 else
 if 149 = 149 ∧ 0 ≤ (v1.getD 2 d0).ii ∧ (v1.getD 2 d0).ii < (((v1.getD 0 d0).ll).length : Int) then
 (r_laws_heldStringS [.sl (((((v1.getD 0 d0).ll).getD ((v1.getD 2 d0).ii).toNat []).getD 4 d0).ll), .i ((r4.getD 0 d0).ii)]).bindR fun r5 =>
 if (decide ((r5.getD 0 d0).ii < (0 : Int))) = true then
 .ret [.i (-1 : Int)]
 else
 .norm [.sl ((v1.getD 0 d0).ll), .i ((r5.getD 0 d0).ii), .i ((v1.getD 2 d0).ii)]
 else
 .fail
 else
 .fail
 else
 .fail
 else
 .fail
 else
 .fail) 1 fun v6 =>
 .norm [.sl ((v6.getD 0 d0).ll), .i ((v6.getD 1 d0).ii), .i (IntKind.i64.wrap ((v6.getD 2 d0).ii + (1 : Int)))]
 else
 .ex 0 [.i ((v1.getD 1 d0).ii)]
noncomputable def E_laws_heldArgS (a : List DC) : Out :=
 Out.andThenB (Loop E_laws_heldArgSL1 [.sl ((a.getD 0 d0).ll), .i ((a.getD 1 d0).ii), .i (0 : Int)]) 0 fun v7 =>
 .ret [.i ((v7.getD 0 d0).ii)]
theorem eq_laws_heldArgS a : r_laws_heldArgS a = E_laws_heldArgS a := (Run_eq cfg 71 _ a).trans (by kernel_rfl)
noncomputable def E_laws_szFieldDef (a : List DC) : Out :=
 if (decide ((IntKind.i64.wrap ((a.getD 6 d0).ii - (((a.getD 0 d0).ss).length : Int))) < (0 : Int))) = true then
 .ret [.i (-1 : Int)]
 else
 if (decide ((IntKind.i64.wrap ((IntKind.i64.wrap ((a.getD 6 d0).ii - (((a.getD 0 d0).ss).length : Int))) - (((a.getD 1 d0).ss).length : Int))) < (0 : Int))) = true then
 .ret [.i (-1 : Int)]
 else
 (r_laws_szInDefS [.sl ((a.getD 2 d0).ll), .i (IntKind.i64.wrap ((IntKind.i64.wrap ((a.getD 6 d0).ii - (((a.getD 0 d0).ss).length : Int))) - (((a.getD 1 d0).ss).length : Int)))]).bindR fun r1 =>
 if (decide ((r1.getD 0 d0).ii < (0 : Int))) = true then
 .ret [.i (-1 : Int)]
 else
 (r_laws_szType [.s ((a.getD 3 d0).ss), .s ((a.getD 4 d0).ss), .i ((r1.getD 0 d0).ii)]).bindR fun r2 =>
 if (decide ((r2.getD 0 d0).ii < (0 : Int))) = true then
 .ret [.i (-1 : Int)]
 else
 (r_laws_szDirS [.sl ((a.getD 5 d0).ll), .i ((r2.getD 0 d0).ii)]).bindR fun r3 =>
 if (decide ((r3.getD 0 d0).ii < (0 : Int))) = true then
 .ret [.i (-1 : Int)]
 else
 .ret [.i ((r3.getD 0 d0).ii)]
theorem eq_laws_szFieldDef a : r_laws_szFieldDef a = E_laws_szFieldDef a := (Run_eq cfg 80 _ a).trans (by kernel_rfl)
noncomputable def E_laws_szInDef (a : List DC) : Out :=
 if (decide ((IntKind.i64.wrap ((a.getD 10 d0).ii - (((a.getD 0 d0).ss).length : Int))) < (0 : Int))) = true then
 .ret [.i (-1 : Int)]
 else
 if (decide ((IntKind.i64.wrap ((IntKind.i64.wrap ((a.getD 10 d0).ii - (((a.getD 0 d0).ss).length : Int))) - (((a.getD 1 d0).ss).length : Int))) < (0 : Int))) = true then
 .ret [.i (-1 : Int)]
 else
 (r_laws_szType [.s ((a.getD 2 d0).ss), .s ((a.getD 3 d0).ss), .i (IntKind.i64.wrap ((IntKind.i64.wrap ((a.getD 10 d0).ii - (((a.getD 0 d0).ss).length : Int))) - (((a.getD 1 d0).ss).length : Int)))]).bindR fun r1 =>
 if (decide ((r1.getD 0 d0).ii < (0 : Int))) = true then
 .ret [.i (-1 : Int)]
 else
 (r_laws_szValue [.i ((a.getD 5 d0).ii), .s ((a.getD 6 d0).ss), .sl ((a.getD 7 d0).ll), .sl ((a.getD 8 d0).ll), .i ((r1.getD 0 d0).ii)]).bindR fun r2 =>
 if (decide ((r2.getD 0 d0).ii < (0 : Int))) = true then
 .ret [.i (-1 : Int)]
 else
 (r_laws_szDirS [.sl ((a.getD 9 d0).ll), .i ((r2.getD 0 d0).ii)]).bindR fun r3 =>
 if (decide ((r3.getD 0 d0).ii < (0 : Int))) = true then
 .ret [.i (-1 : Int)]
 else
 .ret [.i ((r3.getD 0 d0).ii)]
theorem eq_laws_szInDef a : r_laws_szInDef a = E_laws_szInDef a := (Run_eq cfg 81 _ a).trans (by kernel_rfl)
noncomputable def E_laws_szEnumDef (a : List DC) : Out :=
 if (decide ((IntKind.i64.wrap ((a.getD 3 d0).ii - (((a.getD 0 d0).ss).length : Int))) < (0 : Int))) = true then
 .ret [.i (-1 : Int)]
 else
 if (decide ((IntKind.i64.wrap ((IntKind.i64.wrap ((a.getD 3 d0).ii - (((a.getD 0 d0).ss).length : Int))) - (((a.getD 1 d0).ss).length : Int))) < (0 : Int))) = true then
 .ret [.i (-1 : Int)]
 else
 (r_laws_szDirS [.sl ((a.getD 2 d0).ll), .i (IntKind.i64.wrap ((IntKind.i64.wrap ((a.getD 3 d0).ii - (((a.getD 0 d0).ss).length : Int))) - (((a.getD 1 d0).ss).length : Int)))]).bindR fun r1 =>
 if (decide ((r1.getD 0 d0).ii < (0 : Int))) = true then
 .ret [.i (-1 : Int)]
 else
 .ret [.i ((r1.getD 0 d0).ii)]
theorem eq_laws_szEnumDef a : r_laws_szEnumDef a = E_laws_szEnumDef a := (Run_eq cfg 82 _ a).trans (by kernel_rfl)
noncomputable def E_laws_szRoot (a : List DC) : Out :=
 if (decide ((IntKind.i64.wrap ((a.getD 2 d0).ii - (((a.getD 1 d0).ss).length : Int))) < (0 : Int))) = true then
 .ret [.i (-1 : Int)]
 else
 .ret [.i (IntKind.i64.wrap ((a.getD 2 d0).ii - (((a.getD 1 d0).ss).length : Int)))]
theorem eq_laws_szRoot a : r_laws_szRoot a = E_laws_szRoot a := (Run_eq cfg 83 _ a).trans (by kernel_rfl)
noncomputable def E_laws_szDir (a : List DC) : Out :=
 if (decide ((IntKind.i64.wrap ((a.getD 2 d0).ii - (((a.getD 0 d0).ss).length : Int))) < (0 : Int))) = true then
 .ret [.i (-1 : Int)]
 else
 (r_laws_szArgS [.sl ((a.getD 1 d0).ll), .i (IntKind.i64.wrap ((a.getD 2 d0).ii - (((a.getD 0 d0).ss).length : Int)))]).bindR fun r1 =>
 if (decide ((r1.getD 0 d0).ii < (0 : Int))) = true then
 .ret [.i (-1 : Int)]
 else
 .ret [.i ((r1.getD 0 d0).ii)]
theorem eq_laws_szDir a : r_laws_szDir a = E_laws_szDir a := (Run_eq cfg 84 _ a).trans (by kernel_rfl)
noncomputable def E_laws_toFieldDef (a : List DC) : Out :=
 (r_laws_toInDefS [.sl ((a.getD 2 d0).ll)]).bindR fun r1 =>
 (r_laws_toType [.s ((a.getD 3 d0).ss), .s ((a.getD 4 d0).ss)]).bindR fun r2 =>
 (r_laws_toDirS [.sl ((a.getD 5 d0).ll)]).bindR fun r3 =>
 .ret [.s ((a.getD 0 d0).ss), .s ((a.getD 1 d0).ss), .sl ((r1.getD 0 d0).ll), .s ((r2.getD 0 d0).ss), .s ((r2.getD 1 d0).ss), .sl ((r3.getD 0 d0).ll)]
theorem eq_laws_toFieldDef a : r_laws_toFieldDef a = E_laws_toFieldDef a := (Run_eq cfg 87 _ a).trans (by kernel_rfl)
noncomputable def E_laws_toInDef (a : List DC) : Out :=
 (r_laws_toType [.s ((a.getD 2 d0).ss), .s ((a.getD 3 d0).ss)]).bindR fun r1 =>
 (r_laws_toValue [.i ((a.getD 5 d0).ii), .s ((a.getD 6 d0).ss), .sl ((a.getD 7 d0).ll), .sl ((a.getD 8 d0).ll)]).bindR fun r2 =>
 (r_laws_toDirS [.sl ((a.getD 9 d0).ll)]).bindR fun r3 =>
 .ret [.s ((a.getD 0 d0).ss), .s ((a.getD 1 d0).ss), .s ((r1.getD 0 d0).ss), .s ((r1.getD 1 d0).ss), .b ((a.getD 4 d0).bb), .i ((r2.getD 0 d0).ii), .s ((r2.getD 1 d0).ss), .sl ((r2.getD 2 d0).ll), .sl ((r2.getD 3 d0).ll), .sl ((r3.getD 0 d0).ll)]
theorem eq_laws_toInDef a : r_laws_toInDef a = E_laws_toInDef a := (Run_eq cfg 88 _ a).trans (by kernel_rfl)
noncomputable def E_laws_toEnumDef (a : List DC) : Out :=
 (r_laws_toDirS [.sl ((a.getD 2 d0).ll)]).bindR fun r1 =>
 .ret [.s ((a.getD 0 d0).ss), .s ((a.getD 1 d0).ss), .sl ((r1.getD 0 d0).ll)]
theorem eq_laws_toEnumDef a : r_laws_toEnumDef a = E_laws_toEnumDef a := (Run_eq cfg 89 _ a).trans (by kernel_rfl)
noncomputable def E_laws_toRoot (a : List DC) : Out :=
 .ret [.i ((a.getD 0 d0).ii), .s ((a.getD 1 d0).ss)]
theorem eq_laws_toRoot a : r_laws_toRoot a = E_laws_toRoot a := (Run_eq cfg 90 _ a).trans (by kernel_rfl)
noncomputable def E_laws_toDir (a : List DC) : Out :=
 (r_laws_toArgS [.sl ((a.getD 1 d0).ll)]).bindR fun r1 =>
 .ret [.s ((a.getD 0 d0).ss), .sl ((r1.getD 0 d0).ll)]
theorem eq_laws_toDir a : r_laws_toDir a = E_laws_toDir a := (Run_eq cfg 91 _ a).trans (by kernel_rfl)
noncomputable def E_spec_l07CopyL1 : List DC → Out := fun v4 =>
 if (decide ((v4.getD 0 d0).ii < (((v4.getD 3 d0).ll).length : Int))) = true then
 Out.andThenB (if 100 = 100 ∧ 0 ≤ (v4.getD 0 d0).ii ∧ (v4.getD 0 d0).ii < (((v4.getD 3 d0).ll).length : Int) then
 (r_spec_l07Copy [.i (((((v4.getD 3 d0).ll).getD ((v4.getD 0 d0).ii).toNat []).getD 0 d0).ii), .s (((((v4.getD 3 d0).ll).getD ((v4.getD 0 d0).ii).toNat []).getD 1 d0).ss), .sl (((((v4.getD 3 d0).ll).getD ((v4.getD 0 d0).ii).toNat []).getD 2 d0).ll), .sl (((((v4.getD 3 d0).ll).getD ((v4.getD 0 d0).ii).toNat []).getD 3 d0).ll)]).bindR fun r5 =>
 if ((v4.getD 9 d0).ll).length + [[DC.i ((r5.getD 0 d0).ii), DC.s ((r5.getD 1 d0).ss), DC.sl ((r5.getD 2 d0).ll), DC.sl ((r5.getD 3 d0).ll)]].length < LIM ∧ 98 = 98 then
 .norm [.i ((v4.getD 0 d0).ii), .i ((v4.getD 1 d0).ii), .s ((v4.getD 2 d0).ss), .sl ((v4.getD 3 d0).ll), .sl ((v4.getD 4 d0).ll), .i ((v4.getD 5 d0).ii), .s ((v4.getD 6 d0).ss), .i ((v4.getD 7 d0).ii), .s ((v4.getD 8 d0).ss), .sl (((v4.getD 9 d0).ll) ++ [[DC.i ((r5.getD 0 d0).ii), DC.s ((r5.getD 1 d0).ss), DC.sl ((r5.getD 2 d0).ll), DC.sl ((r5.getD 3 d0).ll)]]), .sl ((v4.getD 10 d0).ll)]
 else
 .fail
 else
 .fail) 1 fun v6 =>
 .norm [.i (IntKind.i64.wrap ((v6.getD 0 d0).ii + (1 : Int))), .i ((v6.getD 1 d0).ii), .s ((v6.getD 2 d0).ss), .sl ((v6.getD 3 d0).ll), .sl ((v6.getD 4 d0).ll), .i ((v6.getD 5 d0).ii), .s ((v6.getD 6 d0).ss), .i ((v6.getD 7 d0).ii), .s ((v6.getD 8 d0).ss), .sl ((v6.getD 9 d0).ll), .sl ((v6.getD 10 d0).ll)]
 else
 .ex 0 [.i ((v4.getD 5 d0).ii), .s ((v4.getD 6 d0).ss), .i ((v4.getD 7 d0).ii), .s ((v4.getD 8 d0).ss), .sl ((v4.getD 9 d0).ll), .sl ((v4.getD 10 d0).ll)]
noncomputable def E_spec_l07Copy (a : List DC) : Out :=
 if ([] : List (List DC)).length + ((a.getD 3 d0).ll).length < LIM then
 Out.andThenB (Loop E_spec_l07CopyL1 [.i (0 : Int), .i ((a.getD 0 d0).ii), .s ((a.getD 1 d0).ss), .sl ((a.getD 2 d0).ll), .sl ((a.getD 3 d0).ll), .i (0 : Int), .s [], .i ((a.getD 0 d0).ii), .s ((a.getD 1 d0).ss), .sl [], .sl (([] : List (List DC)) ++ ((a.getD 3 d0).ll))]) 0 fun v7 =>
 .ret [.i ((v7.getD 2 d0).ii), .s ((v7.getD 3 d0).ss), .sl ((v7.getD 4 d0).ll), .sl ((v7.getD 5 d0).ll)]
 else
 .fail
theorem eq_spec_l07Copy a : r_spec_l07Copy a = E_spec_l07Copy a := (Run_eq cfg 85 _ a).trans (by kernel_rfl)
noncomputable def E_spec_l10ArgsL1 : List DC → Out := fun v1 =>
 if (decide ((v1.getD 2 d0).ii < (((v1.getD 0 d0).ll).length : Int))) = true then
 Out.andThenB (if 149 = 149 ∧ 0 ≤ (v1.getD 2 d0).ii ∧ (v1.getD 2 d0).ii < (((v1.getD 0 d0).ll).length : Int) then
 if 149 = 149 ∧ 0 ≤ (v1.getD 2 d0).ii ∧ (v1.getD 2 d0).ii < (((v1.getD 0 d0).ll).length : Int) then
 (r_spec_l07Copy [.i (((((v1.getD 0 d0).ll).getD ((v1.getD 2 d0).ii).toNat []).getD 1 d0).ii), .s (((((v1.getD 0 d0).ll).getD ((v1.getD 2 d0).ii).toNat []).getD 2 d0).ss), .sl (((((v1.getD 0 d0).ll).getD ((v1.getD 2 d0).ii).toNat []).getD 3 d0).ll), .sl (((((v1.getD 0 d0).ll).getD ((v1.getD 2 d0).ii).toNat []).getD 4 d0).ll)]).bindR fun r2 =>
 if ((v1.getD 1 d0).ll).length + [[DC.s (((((v1.getD 0 d0).ll).getD ((v1.getD 2 d0).ii).toNat []).getD 0 d0).ss), DC.i ((r2.getD 0 d0).ii), DC.s ((r2.getD 1 d0).ss), DC.sl ((r2.getD 2 d0).ll), DC.sl ((r2.getD 3 d0).ll)]].length < LIM ∧ 106 = 106 then
 .norm [.sl ((v1.getD 0 d0).ll), .sl (((v1.getD 1 d0).ll) ++ [[DC.s (((((v1.getD 0 d0).ll).getD ((v1.getD 2 d0).ii).toNat []).getD 0 d0).ss), DC.i ((r2.getD 0 d0).ii), DC.s ((r2.getD 1 d0).ss), DC.sl ((r2.getD 2 d0).ll), DC.sl ((r2.getD 3 d0).ll)]]), .i ((v1.getD 2 d0).ii)]
 else
 .fail
 else
 .fail
 else
 .fail) 1 fun v3 =>
 .norm [.sl ((v3.getD 0 d0).ll), .sl ((v3.getD 1 d0).ll), .i (IntKind.i64.wrap ((v3.getD 2 d0).ii + (1 : Int)))]
 else
 .ex 0 [.sl ((v1.getD 1 d0).ll)]
noncomputable def E_spec_l10Args (a : List DC) : Out :=
 Out.andThenB (Loop E_spec_l10ArgsL1 [.sl ((a.getD 0 d0).ll), .sl [], .i (0 : Int)]) 0 fun v4 =>
 .ret [.sl ((v4.getD 0 d0).ll)]
theorem eq_spec_l10Args a : r_spec_l10Args a = E_spec_l10Args a := (Run_eq cfg 86 _ a).trans (by kernel_rfl)
noncomputable def E_slices_Clone_string (a : List DC) : Out := match primC 9 h_slices_Clone_string a with | some r => .ret r | none => .fail
theorem eq_slices_Clone_string a : r_slices_Clone_string a = E_slices_Clone_string a := (Run_eq cfg 92 h_slices_Clone_string a).trans (by kernel_rfl)
theorem at_slices_Clone_string (l : List (List DC)) (hl : l.length ≤ 4194304) : r_slices_Clone_string [.sl l] = .ret [.sl l] := by
  have h : l.length < LIM := by unfold LIM; omega
  have k : primC 9 h_slices_Clone_string [.sl l] = some [.sl l] := by
    show (if 9 = 9 ∧ l.length < LIM then some [DC.sl l] else none) = _
    rw [if_pos ⟨rfl, h⟩]
  rw [eq_slices_Clone_string, E_slices_Clone_string, k]
noncomputable def E_impl_cloneFieldsL1 : List DC → Out := fun v5 =>
 if (decide ((v5.getD 3 d0).ii < (v5.getD 2 d0).ii)) = true then
 Out.andThenB (if 97 = 97 ∧ 0 ≤ (v5.getD 3 d0).ii ∧ (v5.getD 3 d0).ii < (((v5.getD 1 d0).ll).length : Int) then
 (r_impl_cloneIns [.sl (((((v5.getD 1 d0).ll).getD ((v5.getD 3 d0).ii).toNat []).getD 2 d0).ll)]).bindR fun r6 =>
 (r_impl_cloneDirs [.sl (((((v5.getD 1 d0).ll).getD ((v5.getD 3 d0).ii).toNat []).getD 5 d0).ll)]).bindR fun r7 =>
 if ((v5.getD 0 d0).ll).length + [[DC.s (((((v5.getD 1 d0).ll).getD ((v5.getD 3 d0).ii).toNat []).getD 0 d0).ss), DC.s (((((v5.getD 1 d0).ll).getD ((v5.getD 3 d0).ii).toNat []).getD 1 d0).ss), DC.sl ((r6.getD 0 d0).ll), DC.s (((((v5.getD 1 d0).ll).getD ((v5.getD 3 d0).ii).toNat []).getD 3 d0).ss), DC.s (((((v5.getD 1 d0).ll).getD ((v5.getD 3 d0).ii).toNat []).getD 4 d0).ss), DC.sl ((r7.getD 0 d0).ll)]].length < LIM ∧ 45 = 45 then
 .norm [.sl (((v5.getD 0 d0).ll) ++ [[DC.s (((((v5.getD 1 d0).ll).getD ((v5.getD 3 d0).ii).toNat []).getD 0 d0).ss), DC.s (((((v5.getD 1 d0).ll).getD ((v5.getD 3 d0).ii).toNat []).getD 1 d0).ss), DC.sl ((r6.getD 0 d0).ll), DC.s (((((v5.getD 1 d0).ll).getD ((v5.getD 3 d0).ii).toNat []).getD 3 d0).ss), DC.s (((((v5.getD 1 d0).ll).getD ((v5.getD 3 d0).ii).toNat []).getD 4 d0).ss), DC.sl ((r7.getD 0 d0).ll)]]), .sl ((v5.getD 1 d0).ll), .i ((v5.getD 2 d0).ii), .i ((v5.getD 3 d0).ii)]
 else
 .fail
 else
 .fail) 1 fun v8 =>
 .norm [.sl ((v8.getD 0 d0).ll), .sl ((v8.getD 1 d0).ll), .i ((v8.getD 2 d0).ii), .i (IntKind.i64.wrap ((v8.getD 3 d0).ii + (1 : Int)))]
 else
 .ex 0 [.sl ((v5.getD 0 d0).ll)]
noncomputable def E_impl_cloneFields (a : List DC) : Out :=
 Out.andThenB (Loop E_impl_cloneFieldsL1 [.sl [], .sl ((a.getD 0 d0).ll), .i (((a.getD 0 d0).ll).length : Int), .i (0 : Int)]) 0 fun v9 =>
 .ret [.sl ((v9.getD 0 d0).ll)]
theorem eq_impl_cloneFields a : r_impl_cloneFields a = E_impl_cloneFields a := (Run_eq cfg 93 _ a).trans (by kernel_rfl)
noncomputable def E_impl_cloneInsL1 : List DC → Out := fun v5 =>
 if (decide ((v5.getD 3 d0).ii < (v5.getD 2 d0).ii)) = true then
 Out.andThenB (if 102 = 102 ∧ 0 ≤ (v5.getD 3 d0).ii ∧ (v5.getD 3 d0).ii < (((v5.getD 1 d0).ll).length : Int) then
 (r_impl_cloneValue [.i (((((v5.getD 1 d0).ll).getD ((v5.getD 3 d0).ii).toNat []).getD 5 d0).ii), .s (((((v5.getD 1 d0).ll).getD ((v5.getD 3 d0).ii).toNat []).getD 6 d0).ss), .sl (((((v5.getD 1 d0).ll).getD ((v5.getD 3 d0).ii).toNat []).getD 7 d0).ll), .sl (((((v5.getD 1 d0).ll).getD ((v5.getD 3 d0).ii).toNat []).getD 8 d0).ll)]).bindR fun r6 =>
 (r_impl_cloneDirs [.sl (((((v5.getD 1 d0).ll).getD ((v5.getD 3 d0).ii).toNat []).getD 9 d0).ll)]).bindR fun r7 =>
 if ((v5.getD 0 d0).ll).length + [[DC.s (((((v5.getD 1 d0).ll).getD ((v5.getD 3 d0).ii).toNat []).getD 0 d0).ss), DC.s (((((v5.getD 1 d0).ll).getD ((v5.getD 3 d0).ii).toNat []).getD 1 d0).ss), DC.s (((((v5.getD 1 d0).ll).getD ((v5.getD 3 d0).ii).toNat []).getD 2 d0).ss), DC.s (((((v5.getD 1 d0).ll).getD ((v5.getD 3 d0).ii).toNat []).getD 3 d0).ss), DC.b (((((v5.getD 1 d0).ll).getD ((v5.getD 3 d0).ii).toNat []).getD 4 d0).bb), DC.i ((r6.getD 0 d0).ii), DC.s ((r6.getD 1 d0).ss), DC.sl ((r6.getD 2 d0).ll), DC.sl ((r6.getD 3 d0).ll), DC.sl ((r7.getD 0 d0).ll)]].length < LIM ∧ 46 = 46 then
 .norm [.sl (((v5.getD 0 d0).ll) ++ [[DC.s (((((v5.getD 1 d0).ll).getD ((v5.getD 3 d0).ii).toNat []).getD 0 d0).ss), DC.s (((((v5.getD 1 d0).ll).getD ((v5.getD 3 d0).ii).toNat []).getD 1 d0).ss), DC.s (((((v5.getD 1 d0).ll).getD ((v5.getD 3 d0).ii).toNat []).getD 2 d0).ss), DC.s (((((v5.getD 1 d0).ll).getD ((v5.getD 3 d0).ii).toNat []).getD 3 d0).ss), DC.b (((((v5.getD 1 d0).ll).getD ((v5.getD 3 d0).ii).toNat []).getD 4 d0).bb), DC.i ((r6.getD 0 d0).ii), DC.s ((r6.getD 1 d0).ss), DC.sl ((r6.getD 2 d0).ll), DC.sl ((r6.getD 3 d0).ll), DC.sl ((r7.getD 0 d0).ll)]]), .sl ((v5.getD 1 d0).ll), .i ((v5.getD 2 d0).ii), .i ((v5.getD 3 d0).ii)]
 else
 .fail
 else
 .fail) 1 fun v8 =>
 .norm [.sl ((v8.getD 0 d0).ll), .sl ((v8.getD 1 d0).ll), .i ((v8.getD 2 d0).ii), .i (IntKind.i64.wrap ((v8.getD 3 d0).ii + (1 : Int)))]
 else
 .ex 0 [.sl ((v5.getD 0 d0).ll)]
noncomputable def E_impl_cloneIns (a : List DC) : Out :=
 Out.andThenB (Loop E_impl_cloneInsL1 [.sl [], .sl ((a.getD 0 d0).ll), .i (((a.getD 0 d0).ll).length : Int), .i (0 : Int)]) 0 fun v9 =>
 .ret [.sl ((v9.getD 0 d0).ll)]
theorem eq_impl_cloneIns a : r_impl_cloneIns a = E_impl_cloneIns a := (Run_eq cfg 94 _ a).trans (by kernel_rfl)
noncomputable def E_impl_cloneEnumsL1 : List DC → Out := fun v4 =>
 if (decide ((v4.getD 3 d0).ii < (v4.getD 2 d0).ii)) = true then
 Out.andThenB (if 105 = 105 ∧ 0 ≤ (v4.getD 3 d0).ii ∧ (v4.getD 3 d0).ii < (((v4.getD 1 d0).ll).length : Int) then
 (r_impl_cloneDirs [.sl (((((v4.getD 1 d0).ll).getD ((v4.getD 3 d0).ii).toNat []).getD 2 d0).ll)]).bindR fun r5 =>
 if ((v4.getD 0 d0).ll).length + [[DC.s (((((v4.getD 1 d0).ll).getD ((v4.getD 3 d0).ii).toNat []).getD 0 d0).ss), DC.s (((((v4.getD 1 d0).ll).getD ((v4.getD 3 d0).ii).toNat []).getD 1 d0).ss), DC.sl ((r5.getD 0 d0).ll)]].length < LIM ∧ 47 = 47 then
 .norm [.sl (((v4.getD 0 d0).ll) ++ [[DC.s (((((v4.getD 1 d0).ll).getD ((v4.getD 3 d0).ii).toNat []).getD 0 d0).ss), DC.s (((((v4.getD 1 d0).ll).getD ((v4.getD 3 d0).ii).toNat []).getD 1 d0).ss), DC.sl ((r5.getD 0 d0).ll)]]), .sl ((v4.getD 1 d0).ll), .i ((v4.getD 2 d0).ii), .i ((v4.getD 3 d0).ii)]
 else
 .fail
 else
 .fail) 1 fun v6 =>
 .norm [.sl ((v6.getD 0 d0).ll), .sl ((v6.getD 1 d0).ll), .i ((v6.getD 2 d0).ii), .i (IntKind.i64.wrap ((v6.getD 3 d0).ii + (1 : Int)))]
 else
 .ex 0 [.sl ((v4.getD 0 d0).ll)]
noncomputable def E_impl_cloneEnums (a : List DC) : Out :=
 Out.andThenB (Loop E_impl_cloneEnumsL1 [.sl [], .sl ((a.getD 0 d0).ll), .i (((a.getD 0 d0).ll).length : Int), .i (0 : Int)]) 0 fun v7 =>
 .ret [.sl ((v7.getD 0 d0).ll)]
theorem eq_impl_cloneEnums a : r_impl_cloneEnums a = E_impl_cloneEnums a := (Run_eq cfg 95 _ a).trans (by kernel_rfl)
noncomputable def E_slices_Clone_impl_Root (a : List DC) : Out := match primC 68 h_slices_Clone_impl_Root a with | some r => .ret r | none => .fail
theorem eq_slices_Clone_impl_Root a : r_slices_Clone_impl_Root a = E_slices_Clone_impl_Root a := (Run_eq cfg 96 h_slices_Clone_impl_Root a).trans (by kernel_rfl)
theorem at_slices_Clone_impl_Root (l : List (List DC)) (hl : l.length ≤ 4194304) : r_slices_Clone_impl_Root [.sl l] = .ret [.sl l] := by
  have h : l.length < LIM := by unfold LIM; omega
  have k : primC 68 h_slices_Clone_impl_Root [.sl l] = some [.sl l] := by
    show (if 68 = 68 ∧ l.length < LIM then some [DC.sl l] else none) = _
    rw [if_pos ⟨rfl, h⟩]
  rw [eq_slices_Clone_impl_Root, E_slices_Clone_impl_Root, k]
noncomputable def E_impl_cloneDirsL1 : List DC → Out := fun v4 =>
 if (decide ((v4.getD 3 d0).ii < (v4.getD 2 d0).ii)) = true then
 Out.andThenB (if 108 = 108 ∧ 0 ≤ (v4.getD 3 d0).ii ∧ (v4.getD 3 d0).ii < (((v4.getD 1 d0).ll).length : Int) then
 (r_impl_cloneArgs [.sl (((((v4.getD 1 d0).ll).getD ((v4.getD 3 d0).ii).toNat []).getD 1 d0).ll)]).bindR fun r5 =>
 if ((v4.getD 0 d0).ll).length + [[DC.s (((((v4.getD 1 d0).ll).getD ((v4.getD 3 d0).ii).toNat []).getD 0 d0).ss), DC.sl ((r5.getD 0 d0).ll)]].length < LIM ∧ 48 = 48 then
 .norm [.sl (((v4.getD 0 d0).ll) ++ [[DC.s (((((v4.getD 1 d0).ll).getD ((v4.getD 3 d0).ii).toNat []).getD 0 d0).ss), DC.sl ((r5.getD 0 d0).ll)]]), .sl ((v4.getD 1 d0).ll), .i ((v4.getD 2 d0).ii), .i ((v4.getD 3 d0).ii)]
 else
 .fail
 else
 .fail) 1 fun v6 =>
 .norm [.sl ((v6.getD 0 d0).ll), .sl ((v6.getD 1 d0).ll), .i ((v6.getD 2 d0).ii), .i (IntKind.i64.wrap ((v6.getD 3 d0).ii + (1 : Int)))]
 else
 .ex 0 [.sl ((v4.getD 0 d0).ll)]
noncomputable def E_impl_cloneDirs (a : List DC) : Out :=
 Out.andThenB (Loop E_impl_cloneDirsL1 [.sl [], .sl ((a.getD 0 d0).ll), .i (((a.getD 0 d0).ll).length : Int), .i (0 : Int)]) 0 fun v7 =>
 .ret [.sl ((v7.getD 0 d0).ll)]
theorem eq_impl_cloneDirs a : r_impl_cloneDirs a = E_impl_cloneDirs a := (Run_eq cfg 97 _ a).trans (by kernel_rfl)
noncomputable def E_laws_eqFieldDef (a : List DC) : Out :=
 if (!((a.getD 0 d0).ss == (a.getD 6 d0).ss)) = true then
 .ret [.b false]
 else
 if (!((a.getD 1 d0).ss == (a.getD 7 d0).ss)) = true then
 .ret [.b false]
 else
 (r_laws_eqInDefS [.sl ((a.getD 2 d0).ll), .sl ((a.getD 8 d0).ll)]).bindR fun r1 =>
 if (!((r1.getD 0 d0).bb)) = true then
 .ret [.b false]
 else
 (r_laws_eqType [.s ((a.getD 3 d0).ss), .s ((a.getD 4 d0).ss), .s ((a.getD 9 d0).ss), .s ((a.getD 10 d0).ss)]).bindR fun r2 =>
 if (!((r2.getD 0 d0).bb)) = true then
 .ret [.b false]
 else
 (r_laws_eqDirS [.sl ((a.getD 5 d0).ll), .sl ((a.getD 11 d0).ll)]).bindR fun r3 =>
 if (!((r3.getD 0 d0).bb)) = true then
 .ret [.b false]
 else
 .ret [.b true]
theorem eq_laws_eqFieldDef a : r_laws_eqFieldDef a = E_laws_eqFieldDef a := (Run_eq cfg 101 _ a).trans (by kernel_rfl)
noncomputable def E_laws_eqInDef (a : List DC) : Out :=
 if (!((a.getD 0 d0).ss == (a.getD 10 d0).ss)) = true then
 .ret [.b false]
 else
 if (!((a.getD 1 d0).ss == (a.getD 11 d0).ss)) = true then
 .ret [.b false]
 else
 (r_laws_eqType [.s ((a.getD 2 d0).ss), .s ((a.getD 3 d0).ss), .s ((a.getD 12 d0).ss), .s ((a.getD 13 d0).ss)]).bindR fun r1 =>
 if (!((r1.getD 0 d0).bb)) = true then
 .ret [.b false]
 else
 if (!((a.getD 4 d0).bb == (a.getD 14 d0).bb)) = true then
 .ret [.b false]
 else
 (r_laws_eqValue [.i ((a.getD 5 d0).ii), .s ((a.getD 6 d0).ss), .sl ((a.getD 7 d0).ll), .sl ((a.getD 8 d0).ll), .i ((a.getD 15 d0).ii), .s ((a.getD 16 d0).ss), .sl ((a.getD 17 d0).ll), .sl ((a.getD 18 d0).ll)]).bindR fun r2 =>
 if (!((r2.getD 0 d0).bb)) = true then
 .ret [.b false]
 else
 (r_laws_eqDirS [.sl ((a.getD 9 d0).ll), .sl ((a.getD 19 d0).ll)]).bindR fun r3 =>
 if (!((r3.getD 0 d0).bb)) = true then
 .ret [.b false]
 else
 .ret [.b true]
theorem eq_laws_eqInDef a : r_laws_eqInDef a = E_laws_eqInDef a := (Run_eq cfg 102 _ a).trans (by kernel_rfl)
noncomputable def E_laws_eqEnumDef (a : List DC) : Out :=
 if (!((a.getD 0 d0).ss == (a.getD 3 d0).ss)) = true then
 .ret [.b false]
 else
 if (!((a.getD 1 d0).ss == (a.getD 4 d0).ss)) = true then
 .ret [.b false]
 else
 (r_laws_eqDirS [.sl ((a.getD 2 d0).ll), .sl ((a.getD 5 d0).ll)]).bindR fun r1 =>
 if (!((r1.getD 0 d0).bb)) = true then
 .ret [.b false]
 else
 .ret [.b true]
theorem eq_laws_eqEnumDef a : r_laws_eqEnumDef a = E_laws_eqEnumDef a := (Run_eq cfg 103 _ a).trans (by kernel_rfl)
noncomputable def E_laws_eqRoot (a : List DC) : Out :=
 if ((a.getD 0 d0).ii != (a.getD 2 d0).ii) = true then
 .ret [.b false]
 else
 if (!((a.getD 1 d0).ss == (a.getD 3 d0).ss)) = true then
 .ret [.b false]
 else
 .ret [.b true]
theorem eq_laws_eqRoot a : r_laws_eqRoot a = E_laws_eqRoot a := (Run_eq cfg 79 _ a).trans (by kernel_rfl)
noncomputable def E_laws_eqDir (a : List DC) : Out :=
 if (!((a.getD 0 d0).ss == (a.getD 2 d0).ss)) = true then
 .ret [.b false]
 else
 (r_laws_eqArgS [.sl ((a.getD 1 d0).ll), .sl ((a.getD 3 d0).ll)]).bindR fun r1 =>
 if (!((r1.getD 0 d0).bb)) = true then
 .ret [.b false]
 else
 .ret [.b true]
theorem eq_laws_eqDir a : r_laws_eqDir a = E_laws_eqDir a := (Run_eq cfg 104 _ a).trans (by kernel_rfl)
noncomputable def E_laws_szType (a : List DC) : Out :=
 if (decide ((IntKind.i64.wrap ((a.getD 2 d0).ii - (((a.getD 0 d0).ss).length : Int))) < (0 : Int))) = true then
 .ret [.i (-1 : Int)]
 else
 if (decide ((IntKind.i64.wrap ((IntKind.i64.wrap ((a.getD 2 d0).ii - (((a.getD 0 d0).ss).length : Int))) - (((a.getD 1 d0).ss).length : Int))) < (0 : Int))) = true then
 .ret [.i (-1 : Int)]
 else
 .ret [.i (IntKind.i64.wrap ((IntKind.i64.wrap ((a.getD 2 d0).ii - (((a.getD 0 d0).ss).length : Int))) - (((a.getD 1 d0).ss).length : Int)))]
theorem eq_laws_szType a : r_laws_szType a = E_laws_szType a := (Run_eq cfg 108 _ a).trans (by kernel_rfl)
noncomputable def E_laws_szValue (a : List DC) : Out :=
 if (decide ((IntKind.i64.wrap ((a.getD 4 d0).ii - (((a.getD 1 d0).ss).length : Int))) < (0 : Int))) = true then
 .ret [.i (-1 : Int)]
 else
 (r_laws_szValueS [.sl ((a.getD 2 d0).ll), .i (IntKind.i64.wrap ((a.getD 4 d0).ii - (((a.getD 1 d0).ss).length : Int)))]).bindR fun r1 =>
 if (decide ((r1.getD 0 d0).ii < (0 : Int))) = true then
 .ret [.i (-1 : Int)]
 else
 (r_laws_szStringS [.sl ((a.getD 3 d0).ll), .i ((r1.getD 0 d0).ii)]).bindR fun r2 =>
 if (decide ((r2.getD 0 d0).ii < (0 : Int))) = true then
 .ret [.i (-1 : Int)]
 else
 .ret [.i ((r2.getD 0 d0).ii)]
theorem eq_laws_szValue a : r_laws_szValue a = E_laws_szValue a := (Run_eq cfg 109 _ a).trans (by kernel_rfl)
noncomputable def E_laws_szArgSL1 : List DC → Out := fun v1 =>
 if (decide ((v1.getD 2 d0).ii < (((v1.getD 0 d0).ll).length : Int))) = true then
 Out.andThenB (if 168 = 168 ∧ 0 ≤ (v1.getD 2 d0).ii ∧ (v1.getD 2 d0).ii < (((v1.getD 0 d0).ll).length : Int) then
 (r_laws_szArg [.s (((((v1.getD 0 d0).ll).getD ((v1.getD 2 d0).ii).toNat []).getD 0 d0).ss), .i (((((v1.getD 0 d0).ll).getD ((v1.getD 2 d0).ii).toNat []).getD 1 d0).ii), .s (((((v1.getD 0 d0).ll).getD ((v1.getD 2 d0).ii).toNat []).getD 2 d0).ss), .sl (((((v1.getD 0 d0).ll).getD ((v1.getD 2 d0).ii).toNat []).getD 3 d0).ll), .sl (((((v1.getD 0 d0).ll).getD ((v1.getD 2 d0).ii).toNat []).getD 4 d0).ll), .i ((v1.getD 1 d0).ii)]).bindR fun r2 =>
 if (decide ((r2.getD 0 d0).ii < (0 : Int))) = true then
 .ret [.i (-1 : Int)]
 else
 .norm [.sl ((v1.getD 0 d0).ll), .i ((r2.getD 0 d0).ii), .i ((v1.getD 2 d0).ii)]
 else
 .fail) 1 fun v3 =>
 .norm [.sl ((v3.getD 0 d0).ll), .i ((v3.getD 1 d0).ii), .i (IntKind.i64.wrap ((v3.getD 2 d0).ii + (1 : Int)))]
 else
 .ex 0 [.i ((v1.getD 1 d0).ii)]
noncomputable def E_laws_szArgS (a : List DC) : Out :=
 if (decide ((IntKind.i64.wrap ((a.getD 1 d0).ii - (((a.getD 0 d0).ll).length : Int))) < (0 : Int))) = true then
 .ret [.i (-1 : Int)]
 else
 Out.andThenB (Loop E_laws_szArgSL1 [.sl ((a.getD 0 d0).ll), .i (IntKind.i64.wrap ((a.getD 1 d0).ii - (((a.getD 0 d0).ll).length : Int))), .i (0 : Int)]) 0 fun v4 =>
 .ret [.i ((v4.getD 0 d0).ii)]
theorem eq_laws_szArgS a : r_laws_szArgS a = E_laws_szArgS a := (Run_eq cfg 110 _ a).trans (by kernel_rfl)
noncomputable def E_laws_toType (a : List DC) : Out :=
 .ret [.s ((a.getD 0 d0).ss), .s ((a.getD 1 d0).ss)]
theorem eq_laws_toType a : r_laws_toType a = E_laws_toType a := (Run_eq cfg 111 _ a).trans (by kernel_rfl)
noncomputable def E_laws_toValue (a : List DC) : Out :=
 (r_laws_toValueS [.sl ((a.getD 2 d0).ll)]).bindR fun r1 =>
 (r_laws_toStringS [.sl ((a.getD 3 d0).ll)]).bindR fun r2 =>
 .ret [.i ((a.getD 0 d0).ii), .s ((a.getD 1 d0).ss), .sl ((r1.getD 0 d0).ll), .sl ((r2.getD 0 d0).ll)]
theorem eq_laws_toValue a : r_laws_toValue a = E_laws_toValue a := (Run_eq cfg 112 _ a).trans (by kernel_rfl)
noncomputable def E_laws_toArgSL1 : List DC → Out := fun v1 =>
 if (decide ((v1.getD 2 d0).ii < (((v1.getD 0 d0).ll).length : Int))) = true then
 Out.andThenB (if 168 = 168 ∧ 0 ≤ (v1.getD 2 d0).ii ∧ (v1.getD 2 d0).ii < (((v1.getD 0 d0).ll).length : Int) then
 (r_laws_toArg [.s (((((v1.getD 0 d0).ll).getD ((v1.getD 2 d0).ii).toNat []).getD 0 d0).ss), .i (((((v1.getD 0 d0).ll).getD ((v1.getD 2 d0).ii).toNat []).getD 1 d0).ii), .s (((((v1.getD 0 d0).ll).getD ((v1.getD 2 d0).ii).toNat []).getD 2 d0).ss), .sl (((((v1.getD 0 d0).ll).getD ((v1.getD 2 d0).ii).toNat []).getD 3 d0).ll), .sl (((((v1.getD 0 d0).ll).getD ((v1.getD 2 d0).ii).toNat []).getD 4 d0).ll)]).bindR fun r2 =>
 if 149 = 149 ∧ 0 ≤ (v1.getD 2 d0).ii ∧ (v1.getD 2 d0).ii < (((v1.getD 1 d0).ll).length : Int) then
 .norm [.sl ((v1.getD 0 d0).ll), .sl (((v1.getD 1 d0).ll).set (((v1.getD 2 d0).ii).toNat) (setRunD (((v1.getD 1 d0).ll).getD (((v1.getD 2 d0).ii).toNat) []) 0 [DC.s ((r2.getD 0 d0).ss), DC.i ((r2.getD 1 d0).ii), DC.s ((r2.getD 2 d0).ss), DC.sl ((r2.getD 3 d0).ll), DC.sl ((r2.getD 4 d0).ll)])), .i ((v1.getD 2 d0).ii)]
 else
 .fail
 else
 .fail) 1 fun v3 =>
 .norm [.sl ((v3.getD 0 d0).ll), .sl ((v3.getD 1 d0).ll), .i (IntKind.i64.wrap ((v3.getD 2 d0).ii + (1 : Int)))]
 else
 .ex 0 [.sl ((v1.getD 1 d0).ll)]
noncomputable def E_laws_toArgS (a : List DC) : Out :=
 if 0 ≤ (((a.getD 0 d0).ll).length : Int) ∧ (((a.getD 0 d0).ll).length : Int) < (LIM : Int) ∧ (((a.getD 0 d0).ll).length : Int) = (((a.getD 0 d0).ll).length : Int) ∧ 88 ≤ 1024 ∧ 0 < 5 ∧ dp 149 = false then
 Out.andThenB (Loop E_laws_toArgSL1 [.sl ((a.getD 0 d0).ll), .sl (List.replicate (((a.getD 0 d0).ll).length : Int).toNat [DC.s [], DC.i 0, DC.s [], DC.sl [], DC.sl []]), .i (0 : Int)]) 0 fun v4 =>
 .ret [.sl ((v4.getD 0 d0).ll)]
 else
 .fail
theorem eq_laws_toArgS a : r_laws_toArgS a = E_laws_toArgS a := (Run_eq cfg 113 _ a).trans (by kernel_rfl)
noncomputable def E_impl_cloneValueL1 : List DC → Out := fun v5 =>
 if (decide ((v5.getD 2 d0).ii < (v5.getD 1 d0).ii)) = true then
 Out.andThenB (if 100 = 100 ∧ 0 ≤ (v5.getD 2 d0).ii ∧ (v5.getD 2 d0).ii < (((v5.getD 0 d0).ll).length : Int) then
 (r_impl_cloneValue [.i (((((v5.getD 0 d0).ll).getD ((v5.getD 2 d0).ii).toNat []).getD 0 d0).ii), .s (((((v5.getD 0 d0).ll).getD ((v5.getD 2 d0).ii).toNat []).getD 1 d0).ss), .sl (((((v5.getD 0 d0).ll).getD ((v5.getD 2 d0).ii).toNat []).getD 2 d0).ll), .sl (((((v5.getD 0 d0).ll).getD ((v5.getD 2 d0).ii).toNat []).getD 3 d0).ll)]).bindR fun r6 =>
 if ((v5.getD 7 d0).ll).length + [[DC.i ((r6.getD 0 d0).ii), DC.s ((r6.getD 1 d0).ss), DC.sl ((r6.getD 2 d0).ll), DC.sl ((r6.getD 3 d0).ll)]].length < LIM ∧ 98 = 98 then
 .norm [.sl ((v5.getD 0 d0).ll), .i ((v5.getD 1 d0).ii), .i ((v5.getD 2 d0).ii), .i ((v5.getD 3 d0).ii), .s ((v5.getD 4 d0).ss), .i ((v5.getD 5 d0).ii), .s ((v5.getD 6 d0).ss), .sl (((v5.getD 7 d0).ll) ++ [[DC.i ((r6.getD 0 d0).ii), DC.s ((r6.getD 1 d0).ss), DC.sl ((r6.getD 2 d0).ll), DC.sl ((r6.getD 3 d0).ll)]]), .sl ((v5.getD 8 d0).ll)]
 else
 .fail
 else
 .fail) 1 fun v7 =>
 .norm [.sl ((v7.getD 0 d0).ll), .i ((v7.getD 1 d0).ii), .i (IntKind.i64.wrap ((v7.getD 2 d0).ii + (1 : Int))), .i ((v7.getD 3 d0).ii), .s ((v7.getD 4 d0).ss), .i ((v7.getD 5 d0).ii), .s ((v7.getD 6 d0).ss), .sl ((v7.getD 7 d0).ll), .sl ((v7.getD 8 d0).ll)]
 else
 .ex 0 [.i ((v5.getD 3 d0).ii), .s ((v5.getD 4 d0).ss), .i ((v5.getD 5 d0).ii), .s ((v5.getD 6 d0).ss), .sl ((v5.getD 7 d0).ll), .sl ((v5.getD 8 d0).ll)]
noncomputable def E_impl_cloneValue (a : List DC) : Out :=
 (r_slices_Clone_string [.sl ((a.getD 3 d0).ll)]).bindR fun r1 =>
 Out.andThenB (Loop E_impl_cloneValueL1 [.sl ((a.getD 2 d0).ll), .i (((a.getD 2 d0).ll).length : Int), .i (0 : Int), .i (0 : Int), .s [], .i ((a.getD 0 d0).ii), .s ((a.getD 1 d0).ss), .sl [], .sl ((r1.getD 0 d0).ll)]) 0 fun v8 =>
 .ret [.i ((v8.getD 2 d0).ii), .s ((v8.getD 3 d0).ss), .sl ((v8.getD 4 d0).ll), .sl ((v8.getD 5 d0).ll)]
theorem eq_impl_cloneValue a : r_impl_cloneValue a = E_impl_cloneValue a := (Run_eq cfg 114 _ a).trans (by kernel_rfl)
noncomputable def E_impl_cloneArgsL1 : List DC → Out := fun v4 =>
 if (decide ((v4.getD 3 d0).ii < (v4.getD 2 d0).ii)) = true then
 Out.andThenB (if 149 = 149 ∧ 0 ≤ (v4.getD 3 d0).ii ∧ (v4.getD 3 d0).ii < (((v4.getD 1 d0).ll).length : Int) then
 (r_impl_cloneValue [.i (((((v4.getD 1 d0).ll).getD ((v4.getD 3 d0).ii).toNat []).getD 1 d0).ii), .s (((((v4.getD 1 d0).ll).getD ((v4.getD 3 d0).ii).toNat []).getD 2 d0).ss), .sl (((((v4.getD 1 d0).ll).getD ((v4.getD 3 d0).ii).toNat []).getD 3 d0).ll), .sl (((((v4.getD 1 d0).ll).getD ((v4.getD 3 d0).ii).toNat []).getD 4 d0).ll)]).bindR fun r5 =>
 if ((v4.getD 0 d0).ll).length + [[DC.s (((((v4.getD 1 d0).ll).getD ((v4.getD 3 d0).ii).toNat []).getD 0 d0).ss), DC.i ((r5.getD 0 d0).ii), DC.s ((r5.getD 1 d0).ss), DC.sl ((r5.getD 2 d0).ll), DC.sl ((r5.getD 3 d0).ll)]].length < LIM ∧ 106 = 106 then
 .norm [.sl (((v4.getD 0 d0).ll) ++ [[DC.s (((((v4.getD 1 d0).ll).getD ((v4.getD 3 d0).ii).toNat []).getD 0 d0).ss), DC.i ((r5.getD 0 d0).ii), DC.s ((r5.getD 1 d0).ss), DC.sl ((r5.getD 2 d0).ll), DC.sl ((r5.getD 3 d0).ll)]]), .sl ((v4.getD 1 d0).ll), .i ((v4.getD 2 d0).ii), .i ((v4.getD 3 d0).ii)]
 else
 .fail
 else
 .fail) 1 fun v6 =>
 .norm [.sl ((v6.getD 0 d0).ll), .sl ((v6.getD 1 d0).ll), .i ((v6.getD 2 d0).ii), .i (IntKind.i64.wrap ((v6.getD 3 d0).ii + (1 : Int)))]
 else
 .ex 0 [.sl ((v4.getD 0 d0).ll)]
noncomputable def E_impl_cloneArgs (a : List DC) : Out :=
 Out.andThenB (Loop E_impl_cloneArgsL1 [.sl [], .sl ((a.getD 0 d0).ll), .i (((a.getD 0 d0).ll).length : Int), .i (0 : Int)]) 0 fun v7 =>
 .ret [.sl ((v7.getD 0 d0).ll)]
theorem eq_impl_cloneArgs a : r_impl_cloneArgs a = E_impl_cloneArgs a := (Run_eq cfg 115 _ a).trans (by kernel_rfl)
noncomputable def E_laws_eqType (a : List DC) : Out :=
 if (!((a.getD 0 d0).ss == (a.getD 2 d0).ss)) = true then
 .ret [.b false]
 else
 if (!((a.getD 1 d0).ss == (a.getD 3 d0).ss)) = true then
 .ret [.b false]
 else
 .ret [.b true]
theorem eq_laws_eqType a : r_laws_eqType a = E_laws_eqType a := (Run_eq cfg 117 _ a).trans (by kernel_rfl)
noncomputable def E_laws_eqValue (a : List DC) : Out :=
 if ((a.getD 0 d0).ii != (a.getD 4 d0).ii) = true then
 .ret [.b false]
 else
 if (!((a.getD 1 d0).ss == (a.getD 5 d0).ss)) = true then
 .ret [.b false]
 else
 (r_laws_eqValueS [.sl ((a.getD 2 d0).ll), .sl ((a.getD 6 d0).ll)]).bindR fun r1 =>
 if (!((r1.getD 0 d0).bb)) = true then
 .ret [.b false]
 else
 (r_laws_eqStringS [.sl ((a.getD 3 d0).ll), .sl ((a.getD 7 d0).ll)]).bindR fun r2 =>
 if (!((r2.getD 0 d0).bb)) = true then
 .ret [.b false]
 else
 .ret [.b true]
theorem eq_laws_eqValue a : r_laws_eqValue a = E_laws_eqValue a := (Run_eq cfg 118 _ a).trans (by kernel_rfl)
noncomputable def E_laws_eqArgSL1 : List DC → Out := fun v1 =>
 if (decide ((v1.getD 2 d0).ii < (((v1.getD 0 d0).ll).length : Int))) = true then
 Out.andThenB (if 149 = 149 ∧ 0 ≤ (v1.getD 2 d0).ii ∧ (v1.getD 2 d0).ii < (((v1.getD 0 d0).ll).length : Int) then
 if 149 = 149 ∧ 0 ≤ (v1.getD 2 d0).ii ∧ (v1.getD 2 d0).ii < (((v1.getD 1 d0).ll).length : Int) then
 (r_laws_eqArg [.s (((((v1.getD 0 d0).ll).getD ((v1.getD 2 d0).ii).toNat []).getD 0 d0).ss), .i (((((v1.getD 0 d0).ll).getD ((v1.getD 2 d0).ii).toNat []).getD 1 d0).ii), .s (((((v1.getD 0 d0).ll).getD ((v1.getD 2 d0).ii).toNat []).getD 2 d0).ss), .sl (((((v1.getD 0 d0).ll).getD ((v1.getD 2 d0).ii).toNat []).getD 3 d0).ll), .sl (((((v1.getD 0 d0).ll).getD ((v1.getD 2 d0).ii).toNat []).getD 4 d0).ll), .s (((((v1.getD 1 d0).ll).getD ((v1.getD 2 d0).ii).toNat []).getD 0 d0).ss), .i (((((v1.getD 1 d0).ll).getD ((v1.getD 2 d0).ii).toNat []).getD 1 d0).ii), .s (((((v1.getD 1 d0).ll).getD ((v1.getD 2 d0).ii).toNat []).getD 2 d0).ss), .sl (((((v1.getD 1 d0).ll).getD ((v1.getD 2 d0).ii).toNat []).getD 3 d0).ll), .sl (((((v1.getD 1 d0).ll).getD ((v1.getD 2 d0).ii).toNat []).getD 4 d0).ll)]).bindR fun r2 =>
 if (!((r2.getD 0 d0).bb)) = true then
 .ret [.b false]
 else
 .norm [.sl ((v1.getD 0 d0).ll), .sl ((v1.getD 1 d0).ll), .i ((v1.getD 2 d0).ii)]
 else
 .fail
 else
 .fail) 1 fun v3 =>
 .norm [.sl ((v3.getD 0 d0).ll), .sl ((v3.getD 1 d0).ll), .i (IntKind.i64.wrap ((v3.getD 2 d0).ii + (1 : Int)))]
 else
 .ex 0 []
noncomputable def E_laws_eqArgS (a : List DC) : Out :=
 if ((((a.getD 0 d0).ll).length : Int) != (((a.getD 1 d0).ll).length : Int)) = true then
 .ret [.b false]
 else
 Out.andThenB (Loop E_laws_eqArgSL1 [.sl ((a.getD 0 d0).ll), .sl ((a.getD 1 d0).ll), .i (0 : Int)]) 0 fun v4 =>
 .ret [.b true]
theorem eq_laws_eqArgS a : r_laws_eqArgS a = E_laws_eqArgS a := (Run_eq cfg 119 _ a).trans (by kernel_rfl)
noncomputable def E_laws_szValueSL1 : List DC → Out := fun v1 =>
 if (decide ((v1.getD 2 d0).ii < (((v1.getD 0 d0).ll).length : Int))) = true then
 Out.andThenB (if 122 = 122 ∧ 0 ≤ (v1.getD 2 d0).ii ∧ (v1.getD 2 d0).ii < (((v1.getD 0 d0).ll).length : Int) then
 (r_laws_szValue [.i (((((v1.getD 0 d0).ll).getD ((v1.getD 2 d0).ii).toNat []).getD 0 d0).ii), .s (((((v1.getD 0 d0).ll).getD ((v1.getD 2 d0).ii).toNat []).getD 1 d0).ss), .sl (((((v1.getD 0 d0).ll).getD ((v1.getD 2 d0).ii).toNat []).getD 2 d0).ll), .sl (((((v1.getD 0 d0).ll).getD ((v1.getD 2 d0).ii).toNat []).getD 3 d0).ll), .i ((v1.getD 1 d0).ii)]).bindR fun r2 =>
 if (decide ((r2.getD 0 d0).ii < (0 : Int))) = true then
 .ret [.i (-1 : Int)]
 else
 .norm [.sl ((v1.getD 0 d0).ll), .i ((r2.getD 0 d0).ii), .i ((v1.getD 2 d0).ii)]
 else
 .fail) 1 fun v3 =>
 .norm [.sl ((v3.getD 0 d0).ll), .i ((v3.getD 1 d0).ii), .i (IntKind.i64.wrap ((v3.getD 2 d0).ii + (1 : Int)))]
 else
 .ex 0 [.i ((v1.getD 1 d0).ii)]
noncomputable def E_laws_szValueS (a : List DC) : Out :=
 if (decide ((IntKind.i64.wrap ((a.getD 1 d0).ii - (((a.getD 0 d0).ll).length : Int))) < (0 : Int))) = true then
 .ret [.i (-1 : Int)]
 else
 Out.andThenB (Loop E_laws_szValueSL1 [.sl ((a.getD 0 d0).ll), .i (IntKind.i64.wrap ((a.getD 1 d0).ii - (((a.getD 0 d0).ll).length : Int))), .i (0 : Int)]) 0 fun v4 =>
 .ret [.i ((v4.getD 0 d0).ii)]
theorem eq_laws_szValueS a : r_laws_szValueS a = E_laws_szValueS a := (Run_eq cfg 123 _ a).trans (by kernel_rfl)
noncomputable def E_laws_szArg (a : List DC) : Out :=
 if (decide ((IntKind.i64.wrap ((a.getD 5 d0).ii - (((a.getD 0 d0).ss).length : Int))) < (0 : Int))) = true then
 .ret [.i (-1 : Int)]
 else
 (r_laws_szValue [.i ((a.getD 1 d0).ii), .s ((a.getD 2 d0).ss), .sl ((a.getD 3 d0).ll), .sl ((a.getD 4 d0).ll), .i (IntKind.i64.wrap ((a.getD 5 d0).ii - (((a.getD 0 d0).ss).length : Int)))]).bindR fun r1 =>
 if (decide ((r1.getD 0 d0).ii < (0 : Int))) = true then
 .ret [.i (-1 : Int)]
 else
 .ret [.i ((r1.getD 0 d0).ii)]
theorem eq_laws_szArg a : r_laws_szArg a = E_laws_szArg a := (Run_eq cfg 124 _ a).trans (by kernel_rfl)
noncomputable def E_laws_toValueSL1 : List DC → Out := fun v1 =>
 if (decide ((v1.getD 2 d0).ii < (((v1.getD 0 d0).ll).length : Int))) = true then
 Out.andThenB (if 122 = 122 ∧ 0 ≤ (v1.getD 2 d0).ii ∧ (v1.getD 2 d0).ii < (((v1.getD 0 d0).ll).length : Int) then
 (r_laws_toValue [.i (((((v1.getD 0 d0).ll).getD ((v1.getD 2 d0).ii).toNat []).getD 0 d0).ii), .s (((((v1.getD 0 d0).ll).getD ((v1.getD 2 d0).ii).toNat []).getD 1 d0).ss), .sl (((((v1.getD 0 d0).ll).getD ((v1.getD 2 d0).ii).toNat []).getD 2 d0).ll), .sl (((((v1.getD 0 d0).ll).getD ((v1.getD 2 d0).ii).toNat []).getD 3 d0).ll)]).bindR fun r2 =>
 if 100 = 100 ∧ 0 ≤ (v1.getD 2 d0).ii ∧ (v1.getD 2 d0).ii < (((v1.getD 1 d0).ll).length : Int) then
 .norm [.sl ((v1.getD 0 d0).ll), .sl (((v1.getD 1 d0).ll).set (((v1.getD 2 d0).ii).toNat) (setRunD (((v1.getD 1 d0).ll).getD (((v1.getD 2 d0).ii).toNat) []) 0 [DC.i ((r2.getD 0 d0).ii), DC.s ((r2.getD 1 d0).ss), DC.sl ((r2.getD 2 d0).ll), DC.sl ((r2.getD 3 d0).ll)])), .i ((v1.getD 2 d0).ii)]
 else
 .fail
 else
 .fail) 1 fun v3 =>
 .norm [.sl ((v3.getD 0 d0).ll), .sl ((v3.getD 1 d0).ll), .i (IntKind.i64.wrap ((v3.getD 2 d0).ii + (1 : Int)))]
 else
 .ex 0 [.sl ((v1.getD 1 d0).ll)]
noncomputable def E_laws_toValueS (a : List DC) : Out :=
 if 0 ≤ (((a.getD 0 d0).ll).length : Int) ∧ (((a.getD 0 d0).ll).length : Int) < (LIM : Int) ∧ (((a.getD 0 d0).ll).length : Int) = (((a.getD 0 d0).ll).length : Int) ∧ 72 ≤ 1024 ∧ 0 < 4 ∧ dp 100 = false then
 Out.andThenB (Loop E_laws_toValueSL1 [.sl ((a.getD 0 d0).ll), .sl (List.replicate (((a.getD 0 d0).ll).length : Int).toNat [DC.i 0, DC.s [], DC.sl [], DC.sl []]), .i (0 : Int)]) 0 fun v4 =>
 .ret [.sl ((v4.getD 0 d0).ll)]
 else
 .fail
theorem eq_laws_toValueS a : r_laws_toValueS a = E_laws_toValueS a := (Run_eq cfg 125 _ a).trans (by kernel_rfl)
noncomputable def E_laws_toArg (a : List DC) : Out :=
 (r_laws_toValue [.i ((a.getD 1 d0).ii), .s ((a.getD 2 d0).ss), .sl ((a.getD 3 d0).ll), .sl ((a.getD 4 d0).ll)]).bindR fun r1 =>
 .ret [.s ((a.getD 0 d0).ss), .i ((r1.getD 0 d0).ii), .s ((r1.getD 1 d0).ss), .sl ((r1.getD 2 d0).ll), .sl ((r1.getD 3 d0).ll)]
theorem eq_laws_toArg a : r_laws_toArg a = E_laws_toArg a := (Run_eq cfg 126 _ a).trans (by kernel_rfl)
noncomputable def E_laws_eqValueSL1 : List DC → Out := fun v1 =>
 if (decide ((v1.getD 2 d0).ii < (((v1.getD 0 d0).ll).length : Int))) = true then
 Out.andThenB (if 100 = 100 ∧ 0 ≤ (v1.getD 2 d0).ii ∧ (v1.getD 2 d0).ii < (((v1.getD 0 d0).ll).length : Int) then
 if 100 = 100 ∧ 0 ≤ (v1.getD 2 d0).ii ∧ (v1.getD 2 d0).ii < (((v1.getD 1 d0).ll).length : Int) then
 (r_laws_eqValue [.i (((((v1.getD 0 d0).ll).getD ((v1.getD 2 d0).ii).toNat []).getD 0 d0).ii), .s (((((v1.getD 0 d0).ll).getD ((v1.getD 2 d0).ii).toNat []).getD 1 d0).ss), .sl (((((v1.getD 0 d0).ll).getD ((v1.getD 2 d0).ii).toNat []).getD 2 d0).ll), .sl (((((v1.getD 0 d0).ll).getD ((v1.getD 2 d0).ii).toNat []).getD 3 d0).ll), .i (((((v1.getD 1 d0).ll).getD ((v1.getD 2 d0).ii).toNat []).getD 0 d0).ii), .s (((((v1.getD 1 d0).ll).getD ((v1.getD 2 d0).ii).toNat []).getD 1 d0).ss), .sl (((((v1.getD 1 d0).ll).getD ((v1.getD 2 d0).ii).toNat []).getD 2 d0).ll), .sl (((((v1.getD 1 d0).ll).getD ((v1.getD 2 d0).ii).toNat []).getD 3 d0).ll)]).bindR fun r2 =>
 if (!((r2.getD 0 d0).bb)) = true then
 .ret [.b false]
 else
 .norm [.sl ((v1.getD 0 d0).ll), .sl ((v1.getD 1 d0).ll), .i ((v1.getD 2 d0).ii)]
 else
 .fail
 else
 .fail) 1 fun v3 =>
 .norm [.sl ((v3.getD 0 d0).ll), .sl ((v3.getD 1 d0).ll), .i (IntKind.i64.wrap ((v3.getD 2 d0).ii + (1 : Int)))]
 else
 .ex 0 []
noncomputable def E_laws_eqValueS (a : List DC) : Out :=
 if ((((a.getD 0 d0).ll).length : Int) != (((a.getD 1 d0).ll).length : Int)) = true then
 .ret [.b false]
 else
 Out.andThenB (Loop E_laws_eqValueSL1 [.sl ((a.getD 0 d0).ll), .sl ((a.getD 1 d0).ll), .i (0 : Int)]) 0 fun v4 =>
 .ret [.b true]
theorem eq_laws_eqValueS a : r_laws_eqValueS a = E_laws_eqValueS a := (Run_eq cfg 128 _ a).trans (by kernel_rfl)
noncomputable def E_laws_eqArg (a : List DC) : Out :=
 if (!((a.getD 0 d0).ss == (a.getD 5 d0).ss)) = true then
 .ret [.b false]
 else
 (r_laws_eqValue [.i ((a.getD 1 d0).ii), .s ((a.getD 2 d0).ss), .sl ((a.getD 3 d0).ll), .sl ((a.getD 4 d0).ll), .i ((a.getD 6 d0).ii), .s ((a.getD 7 d0).ss), .sl ((a.getD 8 d0).ll), .sl ((a.getD 9 d0).ll)]).bindR fun r1 =>
 if (!((r1.getD 0 d0).bb)) = true then
 .ret [.b false]
 else
 .ret [.b true]
theorem eq_laws_eqArg a : r_laws_eqArg a = E_laws_eqArg a := (Run_eq cfg 129 _ a).trans (by kernel_rfl)
end Go.Proofs.QV

