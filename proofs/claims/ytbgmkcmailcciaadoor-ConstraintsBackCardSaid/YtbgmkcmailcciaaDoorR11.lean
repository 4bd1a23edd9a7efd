/- Skips as octets, and the encodings of constraints, at the evaluator. No conditions. -/
import Derived.Test.YtbgmkcmailcciaaDoorR10
import Derived.Test.YtbgmkcmailcciaaDoorR3
import Derived.Test.YtbgmkcmailcciaaDoorR4
import Derived.Test.YtbgmkcmailcciaaDoorR5
import Derived.Test.YtbgmkcmailcciaaDoorS1
import Derived.Test.YtbgmkcmailcciaaDoorS2
import Derived.Test.YtbgmkcmailcciaaDoorS3
import Derived.Test.YtbgmkcmailcciaaDoorS4
import Derived.Test.YtbgmkcmailcciaaDoorS5
open Ab Go TabC R1 R9 R10
set_option maxRecDepth 20000
set_option linter.unusedSimpArgs false
set_option linter.unusedVariables false
set_option maxHeartbeats 8000000
namespace R11
def capW : List Int → Option Nat
  | [_] => some 1
  | _ => none
structure Num (n : Int) (l : List Int) : Prop where
  sh : (∃ x0, l = [x0]) ∨ (∃ x0 x1, l = [x0, x1]) ∨ (∃ x0 x1 x2, l = [x0, x1, x2]) ∨ (∃ x0 x1 x2 x3, l = [x0, x1, x2, x3])
  b : isB l
  put : Con E 40 33 [.int .i64 n] (.sl false (bs l) (some l.length))
  int : Con E 40 22 [.int .u32 n] (.sl false (bs l) (capW l))
  num : ∀ c, Con E 60 41 [.sl false (bs l) c] (.tup [.int .i64 n, .int .i64 0])
theorem num (n : Int) (h0 : 0 ≤ n) (h1 : n ≤ 2147483647) : ∃ l, Num n l := by
  by_cases c1 : n < 128
  · refine ⟨[n % 256], .inl ⟨_, rfl⟩, by simp [isB_cons, isB_nil]; omega, put1 n h0 c1, ?_, fun c => ?_⟩
    · by_cases e : n = 0
      · subst e; exact int0
      · exact int1 n (by omega) c1
    · have g := get1 (n % 256) c (by omega) (by omega)
      have e : n % 256 = n := by omega
      have g2 : Con E 40 50 [.sl false (bs [n % 256]) c] (.tup [.int .i64 n, .int .i64 0]) := by
        show Con E 40 50 [.sl false [.int .u8 (n % 256)] c] _
        rw [e] at g ⊢; exact g
      exact number _ c n (bs_pure _) h0 h1 g2
  by_cases c2 : n < 32768
  · refine ⟨[n / 256 % 256, n % 256], .inr (.inl ⟨_, _, rfl⟩), by simp [isB_cons, isB_nil]; omega, put2 n (by omega) c2, ?_, fun c => ?_⟩
    · by_cases e : n < 256
      · exact int2B n (by omega) e
      · exact int2A n (by omega) c2
    · have g := get2 (n / 256 % 256) (n % 256) c (by omega) (by omega) (by omega) (by omega) (by omega)
      have e : n / 256 % 256 * 256 + n % 256 = n := by omega
      rw [e] at g
      exact number _ c n (bs_pure _) h0 h1 g
  by_cases c3 : n < 8388608
  · refine ⟨[n / 65536 % 256, n / 256 % 256, n % 256], .inr (.inr (.inl ⟨_, _, _, rfl⟩)), by simp [isB_cons, isB_nil]; omega, put3 n (by omega) c3, ?_, fun c => ?_⟩
    · by_cases e : n < 65536
      · exact int3B n (by omega) e
      · exact int3A n (by omega) c3
    · have g := get3 (n / 65536 % 256) (n / 256 % 256) (n % 256) c (by omega) (by omega) (by omega) (by omega) (by omega) (by omega) (by omega)
      have e : (n / 65536 % 256 * 256 + n / 256 % 256) * 256 + n % 256 = n := by omega
      rw [e] at g
      exact number _ c n (bs_pure _) h0 h1 g
  · refine ⟨[n / 16777216 % 256, n / 65536 % 256, n / 256 % 256, n % 256], .inr (.inr (.inr ⟨_, _, _, _, rfl⟩)), by simp [isB_cons, isB_nil]; omega, put4 n (by omega) (by omega), ?_, fun c => ?_⟩
    · by_cases e : n < 16777216
      · exact int4B n (by omega) e
      · exact int4A n (by omega) (by omega)
    · have g := get4 (n / 16777216 % 256) (n / 65536 % 256) (n / 256 % 256) (n % 256) c (by omega) (by omega) (by omega) (by omega) (by omega) (by omega) (by omega) (by omega) (by omega)
      have e : ((n / 16777216 % 256 * 256 + n / 65536 % 256) * 256 + n / 256 % 256) * 256 + n % 256 = n := by omega
      rw [e] at g
      exact number _ c n (bs_pure _) h0 h1 g
abbrev elem (s : List AV) (c : Option Nat) : AV := .agg [.int .u8 0, .bool true, .int .u32 16, .sl true [] (some 0), .sl false s c]
abbrev sub (i : Int) (l : List AV) (c : Option Nat) : AV := .agg [.int .u8 2, .bool false, .int .u32 i, .sl false l c, .sl true [] (some 0)]
abbrev skp (l : List AV) (c : Option Nat) : AV := .agg [.int .u8 0, .bool false, .int .u32 2, .sl false l c, .sl true [] (some 0)]
abbrev zf : AV := .agg [.sl true [] (some 0), .int .i64 0]
abbrev flds : AV := .sl false [.agg [.int .u8 2, .bool false, .int .u32 0, .bool false, .bool true], .agg [.int .u8 2, .bool false, .int .u32 1, .bool false, .bool true]] (some 2)
abbrev tg : AV := .agg [.int .u8 0, .bool true, .int .u32 16]
structure Enc (s : List AV) (m : Nat) (sw : List AV) (out : List Int) (i j : Int) : Prop where
  b : isB out
  put : Con E 200 35 [elem s (some m)] (.tup [.sl false (bs out) (some out.length), .int .i64 0])
  ref : Con E 200 16 [elem sw none] (.sl false (bs out) none)
  chk : Con E 200 39 [elem s (some m)] (.int .i64 0)
  seq : Con E 200 40 [elem s (some m), tg, flds] (.tup [.sl false [.int .i64 i, .int .i64 j] (some 2), zf])
  get : Con E 200 26 [.sl false (bs out) (some out.length)] (.tup [elem s (some m), .int .i64 0, .int .i64 0])
theorem con {f a v} (hp : AV.pureL a = true) (h : aCall E 200 0 f a [] = some (.ret v, [])) : Con E 200 f a v := .of (g := []) hp h
structure Skp (l : List Int) (out : List Int) : Prop where
  b : isB out
  put : Con E 200 35 [skp (bs l) (some l.length)] (.tup [.sl false (bs out) (some out.length), .int .i64 0])
  ref : Con E 200 16 [skp (bs l) (capW l)] (.sl false (bs out) none)
  get : Con E 200 26 [.sl false (bs out) (some out.length)] (.tup [skp (bs l) (some l.length), .int .i64 0, .int .i64 0])
theorem two {n m la lb} (ha : Num n la) (hb : Num m lb) : ∃ out, Enc [sub 0 (bs la) (some la.length), sub 1 (bs lb) (some lb.length)] 2 [sub 0 (bs la) (capW la), sub 1 (bs lb) (capW lb)] out 0 1 := by
  have ba := ha.b
  have bb := hb.b
  obtain ⟨x0, rfl⟩ | ⟨x0, x1, rfl⟩ | ⟨x0, x1, x2, rfl⟩ | ⟨x0, x1, x2, x3, rfl⟩ := ha.sh <;> obtain ⟨y0, rfl⟩ | ⟨y0, y1, rfl⟩ | ⟨y0, y1, y2, rfl⟩ | ⟨y0, y1, y2, y3, rfl⟩ := hb.sh <;> simp only [isB_cons, isB_nil, and_true] at ba bb
  · exact ⟨[48, 6, 128, 1, x0, 129, 1, y0], by simp [isB_cons, isB_nil]; omega, con rfl (R3.p11 _ _), con rfl (S1.b11 _ _), con rfl (S1.c11 _ _), con rfl (S1.d11 _ _), con rfl (S1.e11 _ _)⟩
  · exact ⟨[48, 7, 128, 1, x0, 129, 2, y0, y1], by simp [isB_cons, isB_nil]; omega, con rfl (R3.p12 _ _ _), con rfl (S1.b12 _ _ _), con rfl (S1.c12 _ _ _), con rfl (S1.d12 _ _ _), con rfl (S1.e12 _ _ _)⟩
  · exact ⟨[48, 8, 128, 1, x0, 129, 3, y0, y1, y2], by simp [isB_cons, isB_nil]; omega, con rfl (R3.p13 _ _ _ _), con rfl (S1.b13 _ _ _ _), con rfl (S1.c13 _ _ _ _), con rfl (S1.d13 _ _ _ _), con rfl (S1.e13 _ _ _ _)⟩
  · exact ⟨[48, 9, 128, 1, x0, 129, 4, y0, y1, y2, y3], by simp [isB_cons, isB_nil]; omega, con rfl (R3.p14 _ _ _ _ _), con rfl (S1.b14 _ _ _ _ _), con rfl (S1.c14 _ _ _ _ _), con rfl (S1.d14 _ _ _ _ _), con rfl (S1.e14 _ _ _ _ _)⟩
  · exact ⟨[48, 7, 128, 2, x0, x1, 129, 1, y0], by simp [isB_cons, isB_nil]; omega, con rfl (R3.p21 _ _ _), con rfl (S2.b21 _ _ _), con rfl (S2.c21 _ _ _), con rfl (S2.d21 _ _ _), con rfl (S2.e21 _ _ _)⟩
  · exact ⟨[48, 8, 128, 2, x0, x1, 129, 2, y0, y1], by simp [isB_cons, isB_nil]; omega, con rfl (R3.p22 _ _ _ _), con rfl (S2.b22 _ _ _ _), con rfl (S2.c22 _ _ _ _), con rfl (S2.d22 _ _ _ _), con rfl (S2.e22 _ _ _ _)⟩
  · exact ⟨[48, 9, 128, 2, x0, x1, 129, 3, y0, y1, y2], by simp [isB_cons, isB_nil]; omega, con rfl (R3.p23 _ _ _ _ _), con rfl (S2.b23 _ _ _ _ _), con rfl (S2.c23 _ _ _ _ _), con rfl (S2.d23 _ _ _ _ _), con rfl (S2.e23 _ _ _ _ _)⟩
  · exact ⟨[48, 10, 128, 2, x0, x1, 129, 4, y0, y1, y2, y3], by simp [isB_cons, isB_nil]; omega, con rfl (R3.p24 _ _ _ _ _ _), con rfl (S2.b24 _ _ _ _ _ _), con rfl (S2.c24 _ _ _ _ _ _), con rfl (S2.d24 _ _ _ _ _ _), con rfl (S2.e24 _ _ _ _ _ _)⟩
  · exact ⟨[48, 8, 128, 3, x0, x1, x2, 129, 1, y0], by simp [isB_cons, isB_nil]; omega, con rfl (R4.p31 _ _ _ _), con rfl (S3.b31 _ _ _ _), con rfl (S3.c31 _ _ _ _), con rfl (S3.d31 _ _ _ _), con rfl (S3.e31 _ _ _ _)⟩
  · exact ⟨[48, 9, 128, 3, x0, x1, x2, 129, 2, y0, y1], by simp [isB_cons, isB_nil]; omega, con rfl (R4.p32 _ _ _ _ _), con rfl (S3.b32 _ _ _ _ _), con rfl (S3.c32 _ _ _ _ _), con rfl (S3.d32 _ _ _ _ _), con rfl (S3.e32 _ _ _ _ _)⟩
  · exact ⟨[48, 10, 128, 3, x0, x1, x2, 129, 3, y0, y1, y2], by simp [isB_cons, isB_nil]; omega, con rfl (R4.p33 _ _ _ _ _ _), con rfl (S3.b33 _ _ _ _ _ _), con rfl (S3.c33 _ _ _ _ _ _), con rfl (S3.d33 _ _ _ _ _ _), con rfl (S3.e33 _ _ _ _ _ _)⟩
  · exact ⟨[48, 11, 128, 3, x0, x1, x2, 129, 4, y0, y1, y2, y3], by simp [isB_cons, isB_nil]; omega, con rfl (R4.p34 _ _ _ _ _ _ _), con rfl (S3.b34 _ _ _ _ _ _ _), con rfl (S3.c34 _ _ _ _ _ _ _), con rfl (S3.d34 _ _ _ _ _ _ _), con rfl (S3.e34 _ _ _ _ _ _ _)⟩
  · exact ⟨[48, 9, 128, 4, x0, x1, x2, x3, 129, 1, y0], by simp [isB_cons, isB_nil]; omega, con rfl (R4.p41 _ _ _ _ _), con rfl (S4.b41 _ _ _ _ _), con rfl (S4.c41 _ _ _ _ _), con rfl (S4.d41 _ _ _ _ _), con rfl (S4.e41 _ _ _ _ _)⟩
  · exact ⟨[48, 10, 128, 4, x0, x1, x2, x3, 129, 2, y0, y1], by simp [isB_cons, isB_nil]; omega, con rfl (R4.p42 _ _ _ _ _ _), con rfl (S4.b42 _ _ _ _ _ _), con rfl (S4.c42 _ _ _ _ _ _), con rfl (S4.d42 _ _ _ _ _ _), con rfl (S4.e42 _ _ _ _ _ _)⟩
  · exact ⟨[48, 11, 128, 4, x0, x1, x2, x3, 129, 3, y0, y1, y2], by simp [isB_cons, isB_nil]; omega, con rfl (R4.p43 _ _ _ _ _ _ _), con rfl (S4.b43 _ _ _ _ _ _ _), con rfl (S4.c43 _ _ _ _ _ _ _), con rfl (S4.d43 _ _ _ _ _ _ _), con rfl (S4.e43 _ _ _ _ _ _ _)⟩
  · exact ⟨[48, 12, 128, 4, x0, x1, x2, x3, 129, 4, y0, y1, y2, y3], by simp [isB_cons, isB_nil]; omega, con rfl (R4.p44 _ _ _ _ _ _ _ _), con rfl (S4.b44 _ _ _ _ _ _ _ _), con rfl (S4.c44 _ _ _ _ _ _ _ _), con rfl (S4.d44 _ _ _ _ _ _ _ _), con rfl (S4.e44 _ _ _ _ _ _ _ _)⟩
theorem one0 {n la} (ha : Num n la) : ∃ out, Enc [sub 0 (bs la) (some la.length)] 1 [sub 0 (bs la) (capW la)] out 0 (-1) := by
  have ba := ha.b
  obtain ⟨x0, rfl⟩ | ⟨x0, x1, rfl⟩ | ⟨x0, x1, x2, rfl⟩ | ⟨x0, x1, x2, x3, rfl⟩ := ha.sh <;> simp only [isB_cons, isB_nil, and_true] at ba
  · exact ⟨[48, 3, 128, 1, x0], by simp [isB_cons, isB_nil]; omega, con rfl (R5.pa1 _), con rfl (S5.ba1 _), con rfl (S5.ca1 _), con rfl (S5.da1 _), con rfl (S5.ea1 _)⟩
  · exact ⟨[48, 4, 128, 2, x0, x1], by simp [isB_cons, isB_nil]; omega, con rfl (R5.pa2 _ _), con rfl (S5.ba2 _ _), con rfl (S5.ca2 _ _), con rfl (S5.da2 _ _), con rfl (S5.ea2 _ _)⟩
  · exact ⟨[48, 5, 128, 3, x0, x1, x2], by simp [isB_cons, isB_nil]; omega, con rfl (R5.pa3 _ _ _), con rfl (S5.ba3 _ _ _), con rfl (S5.ca3 _ _ _), con rfl (S5.da3 _ _ _), con rfl (S5.ea3 _ _ _)⟩
  · exact ⟨[48, 6, 128, 4, x0, x1, x2, x3], by simp [isB_cons, isB_nil]; omega, con rfl (R5.pa4 _ _ _ _), con rfl (S5.ba4 _ _ _ _), con rfl (S5.ca4 _ _ _ _), con rfl (S5.da4 _ _ _ _), con rfl (S5.ea4 _ _ _ _)⟩
theorem one1 {n la} (ha : Num n la) : ∃ out, Enc [sub 1 (bs la) (some la.length)] 1 [sub 1 (bs la) (capW la)] out (-1) 0 := by
  have ba := ha.b
  obtain ⟨x0, rfl⟩ | ⟨x0, x1, rfl⟩ | ⟨x0, x1, x2, rfl⟩ | ⟨x0, x1, x2, x3, rfl⟩ := ha.sh <;> simp only [isB_cons, isB_nil, and_true] at ba
  · exact ⟨[48, 3, 129, 1, x0], by simp [isB_cons, isB_nil]; omega, con rfl (R5.pb1 _), con rfl (S5.bb1 _), con rfl (S5.cb1 _), con rfl (S5.db1 _), con rfl (S5.eb1 _)⟩
  · exact ⟨[48, 4, 129, 2, x0, x1], by simp [isB_cons, isB_nil]; omega, con rfl (R5.pb2 _ _), con rfl (S5.bb2 _ _), con rfl (S5.cb2 _ _), con rfl (S5.db2 _ _), con rfl (S5.eb2 _ _)⟩
  · exact ⟨[48, 5, 129, 3, x0, x1, x2], by simp [isB_cons, isB_nil]; omega, con rfl (R5.pb3 _ _ _), con rfl (S5.bb3 _ _ _), con rfl (S5.cb3 _ _ _), con rfl (S5.db3 _ _ _), con rfl (S5.eb3 _ _ _)⟩
  · exact ⟨[48, 6, 129, 4, x0, x1, x2, x3], by simp [isB_cons, isB_nil]; omega, con rfl (R5.pb4 _ _ _ _), con rfl (S5.bb4 _ _ _ _), con rfl (S5.cb4 _ _ _ _), con rfl (S5.db4 _ _ _ _), con rfl (S5.eb4 _ _ _ _)⟩
theorem skip {n la} (ha : Num n la) : ∃ out, Skp la out := by
  have ba := ha.b
  obtain ⟨x0, rfl⟩ | ⟨x0, x1, rfl⟩ | ⟨x0, x1, x2, rfl⟩ | ⟨x0, x1, x2, x3, rfl⟩ := ha.sh <;> simp only [isB_cons, isB_nil, and_true] at ba
  · exact ⟨[2, 1, x0], by simp [isB_cons, isB_nil]; omega, con rfl (R5.ps1 _), con rfl (S5.bs1 _), con rfl (S5.es1 _)⟩
  · exact ⟨[2, 2, x0, x1], by simp [isB_cons, isB_nil]; omega, con rfl (R5.ps2 _ _), con rfl (S5.bs2 _ _), con rfl (S5.es2 _ _)⟩
  · exact ⟨[2, 3, x0, x1, x2], by simp [isB_cons, isB_nil]; omega, con rfl (R5.ps3 _ _ _), con rfl (S5.bs3 _ _ _), con rfl (S5.es3 _ _ _)⟩
  · exact ⟨[2, 4, x0, x1, x2, x3], by simp [isB_cons, isB_nil]; omega, con rfl (R5.ps4 _ _ _ _), con rfl (S5.bs4 _ _ _ _), con rfl (S5.es4 _ _ _ _)⟩
end R11
