/- Small words and laws of the printed walks. No condition. -/
import Derived.Test.YtbknlijpkabcnaaGreatK26
namespace Go.Proofs.YtbknlijpkabcnaaGreat.K
open Go

abbrev ln {α : Type} (l : List α) : Int := (l.length : Int)
abbrev bn (x : UInt8) : Int := (x.toNat : Int)
abbrev w64 (n : Int) : Int := IntKind.i64.wrap n
def byteOf (n : Int) : UInt8 := UInt8.ofNat (IntKind.u8.wrap n).toNat
def iv (n : Int) : AV := .i .i64 n
def sv {α : Type} (z : Nat) (enc : α → AV) (l : List α) : AV := .sl z (l.map enc)

theorem u8_wrap (n : Int) : (IntKind.u8.wrap n) = ((byteOf n).toNat : Int) := by
  have e : IntKind.u8.wrap n = n % 256 := by simp [IntKind.wrap, IntKind.bits, IntKind.signed]
  unfold byteOf
  rw [e, UInt8.toNat_ofNat']
  omega
theorem u8_of (n : Int) : AV.i .u8 (IntKind.u8.wrap n) = u8 (byteOf n) := by unfold u8; rw [u8_wrap]

theorem lf0 {G : Prop} (_ : some () = some ()) (k : True → G) : G := k trivial
theorem lf1 {t0 : Type} {a0 b0 : t0} {G : Prop} (h : some a0 = some b0) (k : a0 = b0 → G) : G := by
  injection h with h
  exact k h
theorem lf2 {t0 : Type} {a0 b0 : t0} {t1 : Type} {a1 b1 : t1} {G : Prop} (h : some (a0, a1) = some (b0, b1)) (k : a0 = b0 → a1 = b1 → G) : G := by
  injection h with h
  simp only [Prod.mk.injEq] at h
  exact k h.1 h.2
theorem lf3 {t0 : Type} {a0 b0 : t0} {t1 : Type} {a1 b1 : t1} {t2 : Type} {a2 b2 : t2} {G : Prop} (h : some (a0, a1, a2) = some (b0, b1, b2)) (k : a0 = b0 → a1 = b1 → a2 = b2 → G) : G := by
  injection h with h
  simp only [Prod.mk.injEq] at h
  exact k h.1 h.2.1 h.2.2
theorem lf4 {t0 : Type} {a0 b0 : t0} {t1 : Type} {a1 b1 : t1} {t2 : Type} {a2 b2 : t2} {t3 : Type} {a3 b3 : t3} {G : Prop} (h : some (a0, a1, a2, a3) = some (b0, b1, b2, b3)) (k : a0 = b0 → a1 = b1 → a2 = b2 → a3 = b3 → G) : G := by
  injection h with h
  simp only [Prod.mk.injEq] at h
  exact k h.1 h.2.1 h.2.2.1 h.2.2.2
theorem lf5 {t0 : Type} {a0 b0 : t0} {t1 : Type} {a1 b1 : t1} {t2 : Type} {a2 b2 : t2} {t3 : Type} {a3 b3 : t3} {t4 : Type} {a4 b4 : t4} {G : Prop} (h : some (a0, a1, a2, a3, a4) = some (b0, b1, b2, b3, b4)) (k : a0 = b0 → a1 = b1 → a2 = b2 → a3 = b3 → a4 = b4 → G) : G := by
  injection h with h
  simp only [Prod.mk.injEq] at h
  exact k h.1 h.2.1 h.2.2.1 h.2.2.2.1 h.2.2.2.2
theorem lf6 {t0 : Type} {a0 b0 : t0} {t1 : Type} {a1 b1 : t1} {t2 : Type} {a2 b2 : t2} {t3 : Type} {a3 b3 : t3} {t4 : Type} {a4 b4 : t4} {t5 : Type} {a5 b5 : t5} {G : Prop} (h : some (a0, a1, a2, a3, a4, a5) = some (b0, b1, b2, b3, b4, b5)) (k : a0 = b0 → a1 = b1 → a2 = b2 → a3 = b3 → a4 = b4 → a5 = b5 → G) : G := by
  injection h with h
  simp only [Prod.mk.injEq] at h
  exact k h.1 h.2.1 h.2.2.1 h.2.2.2.1 h.2.2.2.2.1 h.2.2.2.2.2
theorem lf7 {t0 : Type} {a0 b0 : t0} {t1 : Type} {a1 b1 : t1} {t2 : Type} {a2 b2 : t2} {t3 : Type} {a3 b3 : t3} {t4 : Type} {a4 b4 : t4} {t5 : Type} {a5 b5 : t5} {t6 : Type} {a6 b6 : t6} {G : Prop} (h : some (a0, a1, a2, a3, a4, a5, a6) = some (b0, b1, b2, b3, b4, b5, b6)) (k : a0 = b0 → a1 = b1 → a2 = b2 → a3 = b3 → a4 = b4 → a5 = b5 → a6 = b6 → G) : G := by
  injection h with h
  simp only [Prod.mk.injEq] at h
  exact k h.1 h.2.1 h.2.2.1 h.2.2.2.1 h.2.2.2.2.1 h.2.2.2.2.2.1 h.2.2.2.2.2.2
theorem lf8 {t0 : Type} {a0 b0 : t0} {t1 : Type} {a1 b1 : t1} {t2 : Type} {a2 b2 : t2} {t3 : Type} {a3 b3 : t3} {t4 : Type} {a4 b4 : t4} {t5 : Type} {a5 b5 : t5} {t6 : Type} {a6 b6 : t6} {t7 : Type} {a7 b7 : t7} {G : Prop} (h : some (a0, a1, a2, a3, a4, a5, a6, a7) = some (b0, b1, b2, b3, b4, b5, b6, b7)) (k : a0 = b0 → a1 = b1 → a2 = b2 → a3 = b3 → a4 = b4 → a5 = b5 → a6 = b6 → a7 = b7 → G) : G := by
  injection h with h
  simp only [Prod.mk.injEq] at h
  exact k h.1 h.2.1 h.2.2.1 h.2.2.2.1 h.2.2.2.2.1 h.2.2.2.2.2.1 h.2.2.2.2.2.2.1 h.2.2.2.2.2.2.2
theorem lf9 {t0 : Type} {a0 b0 : t0} {t1 : Type} {a1 b1 : t1} {t2 : Type} {a2 b2 : t2} {t3 : Type} {a3 b3 : t3} {t4 : Type} {a4 b4 : t4} {t5 : Type} {a5 b5 : t5} {t6 : Type} {a6 b6 : t6} {t7 : Type} {a7 b7 : t7} {t8 : Type} {a8 b8 : t8} {G : Prop} (h : some (a0, a1, a2, a3, a4, a5, a6, a7, a8) = some (b0, b1, b2, b3, b4, b5, b6, b7, b8)) (k : a0 = b0 → a1 = b1 → a2 = b2 → a3 = b3 → a4 = b4 → a5 = b5 → a6 = b6 → a7 = b7 → a8 = b8 → G) : G := by
  injection h with h
  simp only [Prod.mk.injEq] at h
  exact k h.1 h.2.1 h.2.2.1 h.2.2.2.1 h.2.2.2.2.1 h.2.2.2.2.2.1 h.2.2.2.2.2.2.1 h.2.2.2.2.2.2.2.1 h.2.2.2.2.2.2.2.2
theorem lf10 {t0 : Type} {a0 b0 : t0} {t1 : Type} {a1 b1 : t1} {t2 : Type} {a2 b2 : t2} {t3 : Type} {a3 b3 : t3} {t4 : Type} {a4 b4 : t4} {t5 : Type} {a5 b5 : t5} {t6 : Type} {a6 b6 : t6} {t7 : Type} {a7 b7 : t7} {t8 : Type} {a8 b8 : t8} {t9 : Type} {a9 b9 : t9} {G : Prop} (h : some (a0, a1, a2, a3, a4, a5, a6, a7, a8, a9) = some (b0, b1, b2, b3, b4, b5, b6, b7, b8, b9)) (k : a0 = b0 → a1 = b1 → a2 = b2 → a3 = b3 → a4 = b4 → a5 = b5 → a6 = b6 → a7 = b7 → a8 = b8 → a9 = b9 → G) : G := by
  injection h with h
  simp only [Prod.mk.injEq] at h
  exact k h.1 h.2.1 h.2.2.1 h.2.2.2.1 h.2.2.2.2.1 h.2.2.2.2.2.1 h.2.2.2.2.2.2.1 h.2.2.2.2.2.2.2.1 h.2.2.2.2.2.2.2.2.1 h.2.2.2.2.2.2.2.2.2
theorem lf11 {t0 : Type} {a0 b0 : t0} {t1 : Type} {a1 b1 : t1} {t2 : Type} {a2 b2 : t2} {t3 : Type} {a3 b3 : t3} {t4 : Type} {a4 b4 : t4} {t5 : Type} {a5 b5 : t5} {t6 : Type} {a6 b6 : t6} {t7 : Type} {a7 b7 : t7} {t8 : Type} {a8 b8 : t8} {t9 : Type} {a9 b9 : t9} {t10 : Type} {a10 b10 : t10} {G : Prop} (h : some (a0, a1, a2, a3, a4, a5, a6, a7, a8, a9, a10) = some (b0, b1, b2, b3, b4, b5, b6, b7, b8, b9, b10)) (k : a0 = b0 → a1 = b1 → a2 = b2 → a3 = b3 → a4 = b4 → a5 = b5 → a6 = b6 → a7 = b7 → a8 = b8 → a9 = b9 → a10 = b10 → G) : G := by
  injection h with h
  simp only [Prod.mk.injEq] at h
  exact k h.1 h.2.1 h.2.2.1 h.2.2.2.1 h.2.2.2.2.1 h.2.2.2.2.2.1 h.2.2.2.2.2.2.1 h.2.2.2.2.2.2.2.1 h.2.2.2.2.2.2.2.2.1 h.2.2.2.2.2.2.2.2.2.1 h.2.2.2.2.2.2.2.2.2.2
theorem lf12 {t0 : Type} {a0 b0 : t0} {t1 : Type} {a1 b1 : t1} {t2 : Type} {a2 b2 : t2} {t3 : Type} {a3 b3 : t3} {t4 : Type} {a4 b4 : t4} {t5 : Type} {a5 b5 : t5} {t6 : Type} {a6 b6 : t6} {t7 : Type} {a7 b7 : t7} {t8 : Type} {a8 b8 : t8} {t9 : Type} {a9 b9 : t9} {t10 : Type} {a10 b10 : t10} {t11 : Type} {a11 b11 : t11} {G : Prop} (h : some (a0, a1, a2, a3, a4, a5, a6, a7, a8, a9, a10, a11) = some (b0, b1, b2, b3, b4, b5, b6, b7, b8, b9, b10, b11)) (k : a0 = b0 → a1 = b1 → a2 = b2 → a3 = b3 → a4 = b4 → a5 = b5 → a6 = b6 → a7 = b7 → a8 = b8 → a9 = b9 → a10 = b10 → a11 = b11 → G) : G := by
  injection h with h
  simp only [Prod.mk.injEq] at h
  exact k h.1 h.2.1 h.2.2.1 h.2.2.2.1 h.2.2.2.2.1 h.2.2.2.2.2.1 h.2.2.2.2.2.2.1 h.2.2.2.2.2.2.2.1 h.2.2.2.2.2.2.2.2.1 h.2.2.2.2.2.2.2.2.2.1 h.2.2.2.2.2.2.2.2.2.2.1 h.2.2.2.2.2.2.2.2.2.2.2
theorem lf13 {t0 : Type} {a0 b0 : t0} {t1 : Type} {a1 b1 : t1} {t2 : Type} {a2 b2 : t2} {t3 : Type} {a3 b3 : t3} {t4 : Type} {a4 b4 : t4} {t5 : Type} {a5 b5 : t5} {t6 : Type} {a6 b6 : t6} {t7 : Type} {a7 b7 : t7} {t8 : Type} {a8 b8 : t8} {t9 : Type} {a9 b9 : t9} {t10 : Type} {a10 b10 : t10} {t11 : Type} {a11 b11 : t11} {t12 : Type} {a12 b12 : t12} {G : Prop} (h : some (a0, a1, a2, a3, a4, a5, a6, a7, a8, a9, a10, a11, a12) = some (b0, b1, b2, b3, b4, b5, b6, b7, b8, b9, b10, b11, b12)) (k : a0 = b0 → a1 = b1 → a2 = b2 → a3 = b3 → a4 = b4 → a5 = b5 → a6 = b6 → a7 = b7 → a8 = b8 → a9 = b9 → a10 = b10 → a11 = b11 → a12 = b12 → G) : G := by
  injection h with h
  simp only [Prod.mk.injEq] at h
  exact k h.1 h.2.1 h.2.2.1 h.2.2.2.1 h.2.2.2.2.1 h.2.2.2.2.2.1 h.2.2.2.2.2.2.1 h.2.2.2.2.2.2.2.1 h.2.2.2.2.2.2.2.2.1 h.2.2.2.2.2.2.2.2.2.1 h.2.2.2.2.2.2.2.2.2.2.1 h.2.2.2.2.2.2.2.2.2.2.2.1 h.2.2.2.2.2.2.2.2.2.2.2.2
theorem lf14 {t0 : Type} {a0 b0 : t0} {t1 : Type} {a1 b1 : t1} {t2 : Type} {a2 b2 : t2} {t3 : Type} {a3 b3 : t3} {t4 : Type} {a4 b4 : t4} {t5 : Type} {a5 b5 : t5} {t6 : Type} {a6 b6 : t6} {t7 : Type} {a7 b7 : t7} {t8 : Type} {a8 b8 : t8} {t9 : Type} {a9 b9 : t9} {t10 : Type} {a10 b10 : t10} {t11 : Type} {a11 b11 : t11} {t12 : Type} {a12 b12 : t12} {t13 : Type} {a13 b13 : t13} {G : Prop} (h : some (a0, a1, a2, a3, a4, a5, a6, a7, a8, a9, a10, a11, a12, a13) = some (b0, b1, b2, b3, b4, b5, b6, b7, b8, b9, b10, b11, b12, b13)) (k : a0 = b0 → a1 = b1 → a2 = b2 → a3 = b3 → a4 = b4 → a5 = b5 → a6 = b6 → a7 = b7 → a8 = b8 → a9 = b9 → a10 = b10 → a11 = b11 → a12 = b12 → a13 = b13 → G) : G := by
  injection h with h
  simp only [Prod.mk.injEq] at h
  exact k h.1 h.2.1 h.2.2.1 h.2.2.2.1 h.2.2.2.2.1 h.2.2.2.2.2.1 h.2.2.2.2.2.2.1 h.2.2.2.2.2.2.2.1 h.2.2.2.2.2.2.2.2.1 h.2.2.2.2.2.2.2.2.2.1 h.2.2.2.2.2.2.2.2.2.2.1 h.2.2.2.2.2.2.2.2.2.2.2.1 h.2.2.2.2.2.2.2.2.2.2.2.2.1 h.2.2.2.2.2.2.2.2.2.2.2.2.2
theorem lf15 {t0 : Type} {a0 b0 : t0} {t1 : Type} {a1 b1 : t1} {t2 : Type} {a2 b2 : t2} {t3 : Type} {a3 b3 : t3} {t4 : Type} {a4 b4 : t4} {t5 : Type} {a5 b5 : t5} {t6 : Type} {a6 b6 : t6} {t7 : Type} {a7 b7 : t7} {t8 : Type} {a8 b8 : t8} {t9 : Type} {a9 b9 : t9} {t10 : Type} {a10 b10 : t10} {t11 : Type} {a11 b11 : t11} {t12 : Type} {a12 b12 : t12} {t13 : Type} {a13 b13 : t13} {t14 : Type} {a14 b14 : t14} {G : Prop} (h : some (a0, a1, a2, a3, a4, a5, a6, a7, a8, a9, a10, a11, a12, a13, a14) = some (b0, b1, b2, b3, b4, b5, b6, b7, b8, b9, b10, b11, b12, b13, b14)) (k : a0 = b0 → a1 = b1 → a2 = b2 → a3 = b3 → a4 = b4 → a5 = b5 → a6 = b6 → a7 = b7 → a8 = b8 → a9 = b9 → a10 = b10 → a11 = b11 → a12 = b12 → a13 = b13 → a14 = b14 → G) : G := by
  injection h with h
  simp only [Prod.mk.injEq] at h
  exact k h.1 h.2.1 h.2.2.1 h.2.2.2.1 h.2.2.2.2.1 h.2.2.2.2.2.1 h.2.2.2.2.2.2.1 h.2.2.2.2.2.2.2.1 h.2.2.2.2.2.2.2.2.1 h.2.2.2.2.2.2.2.2.2.1 h.2.2.2.2.2.2.2.2.2.2.1 h.2.2.2.2.2.2.2.2.2.2.2.1 h.2.2.2.2.2.2.2.2.2.2.2.2.1 h.2.2.2.2.2.2.2.2.2.2.2.2.2.1 h.2.2.2.2.2.2.2.2.2.2.2.2.2.2
theorem lf16 {t0 : Type} {a0 b0 : t0} {t1 : Type} {a1 b1 : t1} {t2 : Type} {a2 b2 : t2} {t3 : Type} {a3 b3 : t3} {t4 : Type} {a4 b4 : t4} {t5 : Type} {a5 b5 : t5} {t6 : Type} {a6 b6 : t6} {t7 : Type} {a7 b7 : t7} {t8 : Type} {a8 b8 : t8} {t9 : Type} {a9 b9 : t9} {t10 : Type} {a10 b10 : t10} {t11 : Type} {a11 b11 : t11} {t12 : Type} {a12 b12 : t12} {t13 : Type} {a13 b13 : t13} {t14 : Type} {a14 b14 : t14} {t15 : Type} {a15 b15 : t15} {G : Prop} (h : some (a0, a1, a2, a3, a4, a5, a6, a7, a8, a9, a10, a11, a12, a13, a14, a15) = some (b0, b1, b2, b3, b4, b5, b6, b7, b8, b9, b10, b11, b12, b13, b14, b15)) (k : a0 = b0 → a1 = b1 → a2 = b2 → a3 = b3 → a4 = b4 → a5 = b5 → a6 = b6 → a7 = b7 → a8 = b8 → a9 = b9 → a10 = b10 → a11 = b11 → a12 = b12 → a13 = b13 → a14 = b14 → a15 = b15 → G) : G := by
  injection h with h
  simp only [Prod.mk.injEq] at h
  exact k h.1 h.2.1 h.2.2.1 h.2.2.2.1 h.2.2.2.2.1 h.2.2.2.2.2.1 h.2.2.2.2.2.2.1 h.2.2.2.2.2.2.2.1 h.2.2.2.2.2.2.2.2.1 h.2.2.2.2.2.2.2.2.2.1 h.2.2.2.2.2.2.2.2.2.2.1 h.2.2.2.2.2.2.2.2.2.2.2.1 h.2.2.2.2.2.2.2.2.2.2.2.2.1 h.2.2.2.2.2.2.2.2.2.2.2.2.2.1 h.2.2.2.2.2.2.2.2.2.2.2.2.2.2.1 h.2.2.2.2.2.2.2.2.2.2.2.2.2.2.2
theorem mpe {α β : Type} {f : α → β} {l m : List α} (e : l = m) : l.map f = m.map f := by rw [e]
theorem mpn {α β : Type} {f : α → β} {m : List α} (e : [] = m) : m.map f = [] := by rw [← e]; rfl
theorem mpt {α β : Type} {f : α → β} {l m : List α} {k : Nat} (e : l.take k = m) : (l.map f).take k = m.map f := by rw [← e, List.map_take]
theorem pqe {q : Prop} {_ : Decidable q} {x : Bool} (e : decide q = x) : q ↔ x = true := by rw [← e]; exact decide_eq_true_iff.symm
theorem be {a x : Bool} (e : a = x) : a = true ↔ x = true := by rw [e]

theorem dtm {α β : Type} {f : α → β} {l : List α} {a n : Nat} : ((l.map f).drop a).take n = ((l.drop a).take n).map f := by rw [List.map_take, List.map_drop]

theorem consE {α : Type} {a b : α} {l m : List α} (e : a = b) (f : l = m) : a :: l = b :: m := by rw [e, f]

theorem sub_T {α β : Type} {f : α → β} {l : List α} {a h h' : Nat} : sub (l.map f) a h true = (sub l a h' true).map f := by simp [sub]
theorem sub_F {α β : Type} {f : α → β} {l : List α} {a h : Nat} : sub (l.map f) a h false = (sub l a h false).map f := by simp [sub, List.map_take, List.map_drop]
theorem set_map {α : Type} {f : α → AV} {l : List α} {n : Nat} {v : AV} {y : α} (e : v = f y) : (l.map f).set n v = (l.set n y).map f := by rw [e, List.map_set]
theorem rep_map {α : Type} {f : α → AV} {n : Nat} {v : AV} {y : α} (e : v = f y) : List.replicate n v = (List.replicate n y).map f := by rw [e, List.map_replicate]
theorem clear_map {α : Type} {f : α → AV} {l : List α} {a n b : Nat} {v : AV} {y : α} (e : v = f y) : (l.map f).take a ++ List.replicate n v ++ (l.map f).drop b = (l.take a ++ List.replicate n y ++ l.drop b).map f := by
  rw [e, List.map_append, List.map_append, List.map_take, List.map_drop, List.map_replicate]

section
variable {R : Type} {r : R}
theorem OB.app {α : Type} {enc : α → AV} {l : List α} {ys : List AV} {z : Nat} {q : Prop} [Decidable q] {a : Option R} {A : Prop} (e : ys = l.map enc) (hs : ∀ x, (enc x).cells.length = z)
    (h : (if q then a else none) = some r) (hA : q → a = some r → A) : OB (q ∧ ∀ v ∈ ys, v.cells.length = z) A := by
  by_cases hq : q
  · rw [if_pos hq] at h
    refine ⟨⟨hq, fun v hv => ?_⟩, hA hq h⟩
    rw [e] at hv
    obtain ⟨x, _, rfl⟩ := List.mem_map.1 hv
    exact hs x
  · rw [if_neg hq] at h; cases h
theorem OB.appR {α : Type} {enc : α → AV} {l : List α} {ys : List AV} {z : Nat} {q q' : Prop} [Decidable q] [Decidable q'] {a : Option R} {A : Prop} (e : ys = l.map enc) (hs : ∀ x, (enc x).cells.length = z)
    (h : (if q ∧ q' then a else none) = some r) (hA : q ∧ q' → a = some r → A) : OB (q ∧ q' ∧ ∀ v ∈ ys, v.cells.length = z) A := by
  by_cases hq : q ∧ q'
  · rw [if_pos hq] at h
    refine ⟨⟨hq.1, hq.2, fun v hv => ?_⟩, hA hq h⟩
    rw [e] at hv
    obtain ⟨x, _, rfl⟩ := List.mem_map.1 hv
    exact hs x
  · rw [if_neg hq] at h; cases h
theorem NN.grd {y : Int} {a : Option R} {A : Prop} (h : (if 0 ≤ y then a else none) = some r) (hA : 0 ≤ y → a = some r → A) : NN y A := by
  by_cases hq : 0 ≤ y
  · rw [if_pos hq] at h
    obtain ⟨n, rfl⟩ := Int.eq_ofNat_of_zero_le hq
    exact hA hq h
  · rw [if_neg hq] at h; cases h
theorem NZ.grd {y : Int} {a : Option R} {A : Prop} (h : (if y ≠ 0 then a else none) = some r) (hA : y ≠ 0 → a = some r → A) : NZ y A := by
  by_cases hq : y = 0
  · rw [if_neg (fun n => n hq)] at h; cases h
  · rw [if_pos hq] at h
    have := hA hq h
    match y, hq with
    | .ofNat (n + 1), _ => exact this
    | .negSucc n, _ => exact this
    | .ofNat 0, hq => exact absurd rfl hq
end

def flatL : List (Option AObj) → Prop
  | [] => True
  | none :: l => True ∧ flatL l
  | some x :: l => FlatO x ∧ flatL l
theorem FlatO.map {α : Type} {enc : α → AV} {l : List α} {z : Nat} (h : ∀ a, (enc a).cells.all AV.flat = true) : FlatO (.arr z (l.map enc)) := by
  intro x hx c hc
  obtain ⟨a, _, rfl⟩ := List.mem_map.1 hx
  exact List.all_eq_true.1 (h a) c hc
theorem flatL_mem : ∀ {l : List (Option AObj)}, flatL l → ∀ ob, some ob ∈ l → FlatO ob
  | [], _, _, h => by cases h
  | none :: l, h, ob, hm => by
    rcases List.mem_cons.1 hm with e | e
    · cases e
    · exact flatL_mem h.2 ob e
  | some x :: l, h, ob, hm => by
    rcases List.mem_cons.1 hm with e | e
    · cases e; exact h.1
    · exact flatL_mem h.2 ob e
theorem Flat.mk {ret : AV} {co' : List (Option AObj)} (h : ret.flatV = true) (hl : flatL co') : Flat ret co' := ⟨h, flatL_mem hl⟩

end Go.Proofs.YtbknlijpkabcnaaGreat.K
