/- Printed by a program of mine (wip/tools/shal.py): the shallow texts of the loaded functions, each equal to the interpreter's reading by the kernel. -/
import Derived.Test.YtchlicgjdlkidaaDoorShalSt0
import Derived.KernelRfl
set_option linter.unusedVariables false
set_option maxRecDepth 100000
namespace Go.Proofs.YtchlicgjdlkidaaDoor
open Go.Hb

theorem arc_Engine_State_s0_raw (n : Nat) (jn : Jn) (S : World → Prop) (Q : Value → WP) (b : Nat) (sl : Sl) (xp : Option Addr) (p : Int) : arc_Engine_State_s0 (n + 21) [] jn S Q b sl xp p = (
  nilck (some ⟨b, 0, none⟩) fun b_2875 o_2876 =>
  ldS S .slc b_2875 o_2876 fun (x_2877 : Sl) =>
  ldS S .ptr b_2875 (o_2876 + 1) fun (x_2878 : Option Addr) =>
  nilck (some ⟨b, 0, none⟩) fun b_2879 o_2880 =>
  ldS S .slc b_2879 o_2880 fun (x_2881 : Sl) =>
  ldS S .ptr b_2879 (o_2880 + 1) fun (x_2882 : Option Addr) =>
  nilck (some ⟨b, 0, none⟩) fun b_2883 o_2884 =>
  ldS S .slc b_2883 o_2884 fun (x_2885 : Sl) =>
  ldS S .ptr b_2883 (o_2884 + 1) fun (x_2886 : Option Addr) =>
  nilck (some ⟨b, 0, none⟩) fun b_2887 o_2888 =>
  ldS S .slc b_2887 o_2888 fun (x_2889 : Sl) =>
  ldS S .ptr b_2887 (o_2888 + 1) fun (x_2890 : Option Addr) =>
  nilck (some ⟨b, 0, none⟩) fun b_2891 o_2892 =>
  ldS S (.int .i64) b_2891 (o_2892 + 3) fun (x_2893 : Int) =>
  allW [
  (newB [.int .i64 (0 : Int)] ty_int fun b_2894 =>
  keepS true S <|
  drS Tryd.prog arc_Engine_State_kp (cAt [true, true, false] (bodyOf Tryd.f33)) S n [4, 31, 30, 29, 28, 24, 23, 22, 21, 17, 16, 15, 14, 10, 9, 8, 7, 3, 2, 1, 0] [.pointer (some ⟨b, 0, none⟩), undef, .string str_empty, .pointer (some ⟨b, 0, none⟩), .bool false, .pointer (some ⟨b, 0, none⟩), .pointer (some ⟨b_2875, o_2876, none⟩), .pointer (some ⟨b_2875, o_2876, none⟩), .agg #[.slice x_2877.a x_2877.n x_2877.c, .pointer x_2878], .slice (some ⟨b_2894, 0, none⟩) 1 1, undef, undef, .pointer (some ⟨b, 0, none⟩), .pointer (some ⟨b_2879, o_2880, none⟩), .pointer (some ⟨b_2879, o_2880, none⟩), .agg #[.slice x_2881.a x_2881.n x_2881.c, .pointer x_2882], undef, undef, undef, .pointer (some ⟨b, 0, none⟩), .pointer (some ⟨b_2883, o_2884, none⟩), .pointer (some ⟨b_2883, o_2884, none⟩), .agg #[.slice x_2885.a x_2885.n x_2885.c, .pointer x_2886], undef, undef, undef, .pointer (some ⟨b, 0, none⟩), .pointer (some ⟨b_2887, o_2888, none⟩), .pointer (some ⟨b_2887, o_2888, none⟩), .agg #[.slice x_2889.a x_2889.n x_2889.c, .pointer x_2890], undef, undef, undef, .pointer (some ⟨b, 0, none⟩), .pointer (some ⟨b_2891, o_2892, none⟩), .pointer (some ⟨b_2891, (o_2892 + 3), none⟩), .int .i64 x_2893, undef, undef, undef, undef] (seqK Tryd.prog arc_Engine_State_kp jn (cAt [true, true, true] (bodyOf Tryd.f33)) (retK Tryd.prog Tryd.f33 Q) noX (retK Tryd.prog Tryd.f33 Q))),
  (newB [.int .i64 (1 : Int)] ty_int fun b_2895 =>
  keepS true S <|
  drS Tryd.prog arc_Engine_State_kp (cAt [true, true, false] (bodyOf Tryd.f33)) S n [11, 31, 30, 29, 28, 24, 23, 22, 21, 17, 16, 15, 14, 10, 9, 8, 7, 3, 2, 1, 0] [.pointer (some ⟨b, 0, none⟩), undef, .string str_empty, .pointer (some ⟨b, 0, none⟩), .bool false, .pointer (some ⟨b, 0, none⟩), .pointer (some ⟨b_2875, o_2876, none⟩), .pointer (some ⟨b_2875, o_2876, none⟩), .agg #[.slice x_2877.a x_2877.n x_2877.c, .pointer x_2878], undef, undef, undef, .pointer (some ⟨b, 0, none⟩), .pointer (some ⟨b_2879, o_2880, none⟩), .pointer (some ⟨b_2879, o_2880, none⟩), .agg #[.slice x_2881.a x_2881.n x_2881.c, .pointer x_2882], .slice (some ⟨b_2895, 0, none⟩) 1 1, undef, undef, .pointer (some ⟨b, 0, none⟩), .pointer (some ⟨b_2883, o_2884, none⟩), .pointer (some ⟨b_2883, o_2884, none⟩), .agg #[.slice x_2885.a x_2885.n x_2885.c, .pointer x_2886], undef, undef, undef, .pointer (some ⟨b, 0, none⟩), .pointer (some ⟨b_2887, o_2888, none⟩), .pointer (some ⟨b_2887, o_2888, none⟩), .agg #[.slice x_2889.a x_2889.n x_2889.c, .pointer x_2890], undef, undef, undef, .pointer (some ⟨b, 0, none⟩), .pointer (some ⟨b_2891, o_2892, none⟩), .pointer (some ⟨b_2891, (o_2892 + 3), none⟩), .int .i64 x_2893, undef, undef, undef, undef] (seqK Tryd.prog arc_Engine_State_kp jn (cAt [true, true, true] (bodyOf Tryd.f33)) (retK Tryd.prog Tryd.f33 Q) noX (retK Tryd.prog Tryd.f33 Q))),
  (newB [.int .i64 (2 : Int)] ty_int fun b_2896 =>
  keepS true S <|
  drS Tryd.prog arc_Engine_State_kp (cAt [true, true, false] (bodyOf Tryd.f33)) S n [18, 31, 30, 29, 28, 24, 23, 22, 21, 17, 16, 15, 14, 10, 9, 8, 7, 3, 2, 1, 0] [.pointer (some ⟨b, 0, none⟩), undef, .string str_empty, .pointer (some ⟨b, 0, none⟩), .bool false, .pointer (some ⟨b, 0, none⟩), .pointer (some ⟨b_2875, o_2876, none⟩), .pointer (some ⟨b_2875, o_2876, none⟩), .agg #[.slice x_2877.a x_2877.n x_2877.c, .pointer x_2878], undef, undef, undef, .pointer (some ⟨b, 0, none⟩), .pointer (some ⟨b_2879, o_2880, none⟩), .pointer (some ⟨b_2879, o_2880, none⟩), .agg #[.slice x_2881.a x_2881.n x_2881.c, .pointer x_2882], undef, undef, undef, .pointer (some ⟨b, 0, none⟩), .pointer (some ⟨b_2883, o_2884, none⟩), .pointer (some ⟨b_2883, o_2884, none⟩), .agg #[.slice x_2885.a x_2885.n x_2885.c, .pointer x_2886], .slice (some ⟨b_2896, 0, none⟩) 1 1, undef, undef, .pointer (some ⟨b, 0, none⟩), .pointer (some ⟨b_2887, o_2888, none⟩), .pointer (some ⟨b_2887, o_2888, none⟩), .agg #[.slice x_2889.a x_2889.n x_2889.c, .pointer x_2890], undef, undef, undef, .pointer (some ⟨b, 0, none⟩), .pointer (some ⟨b_2891, o_2892, none⟩), .pointer (some ⟨b_2891, (o_2892 + 3), none⟩), .int .i64 x_2893, undef, undef, undef, undef] (seqK Tryd.prog arc_Engine_State_kp jn (cAt [true, true, true] (bodyOf Tryd.f33)) (retK Tryd.prog Tryd.f33 Q) noX (retK Tryd.prog Tryd.f33 Q))),
  (newB [.int .i64 (3 : Int)] ty_int fun b_2897 =>
  keepS true S <|
  drS Tryd.prog arc_Engine_State_kp (cAt [true, true, false] (bodyOf Tryd.f33)) S n [25, 31, 30, 29, 28, 24, 23, 22, 21, 17, 16, 15, 14, 10, 9, 8, 7, 3, 2, 1, 0] [.pointer (some ⟨b, 0, none⟩), undef, .string str_empty, .pointer (some ⟨b, 0, none⟩), .bool false, .pointer (some ⟨b, 0, none⟩), .pointer (some ⟨b_2875, o_2876, none⟩), .pointer (some ⟨b_2875, o_2876, none⟩), .agg #[.slice x_2877.a x_2877.n x_2877.c, .pointer x_2878], undef, undef, undef, .pointer (some ⟨b, 0, none⟩), .pointer (some ⟨b_2879, o_2880, none⟩), .pointer (some ⟨b_2879, o_2880, none⟩), .agg #[.slice x_2881.a x_2881.n x_2881.c, .pointer x_2882], undef, undef, undef, .pointer (some ⟨b, 0, none⟩), .pointer (some ⟨b_2883, o_2884, none⟩), .pointer (some ⟨b_2883, o_2884, none⟩), .agg #[.slice x_2885.a x_2885.n x_2885.c, .pointer x_2886], undef, undef, undef, .pointer (some ⟨b, 0, none⟩), .pointer (some ⟨b_2887, o_2888, none⟩), .pointer (some ⟨b_2887, o_2888, none⟩), .agg #[.slice x_2889.a x_2889.n x_2889.c, .pointer x_2890], .slice (some ⟨b_2897, 0, none⟩) 1 1, undef, undef, .pointer (some ⟨b, 0, none⟩), .pointer (some ⟨b_2891, o_2892, none⟩), .pointer (some ⟨b_2891, (o_2892 + 3), none⟩), .int .i64 x_2893, undef, undef, undef, undef] (seqK Tryd.prog arc_Engine_State_kp jn (cAt [true, true, true] (bodyOf Tryd.f33)) (retK Tryd.prog Tryd.f33 Q) noX (retK Tryd.prog Tryd.f33 Q)))]) := by kernel_rfl
theorem arc_Engine_State_s1_raw (n : Nat) (jn : Jn) (S : World → Prop) (Q : Value → WP) (b : Nat) (sl : Sl) (xp : Option Addr) (p : Int) (b9 : Nat) : arc_Engine_State_s1 (n + 1) [0, 1, 2, 3, 4, 7, 8, 9, 10, 14, 15, 16, 17, 21, 22, 23, 24, 28, 29, 30, 31] jn S Q b sl xp p b9 = (
  allW [
  (call1 .slc Tryd.prog id_arc_rows_keys [.agg #[.slice sl.a sl.n sl.c, .pointer xp], .slice (some ⟨b9, 0, none⟩) 1 1] fun (x_2898 : Sl) =>
  keepS true S <|
  arc_Engine_State_s5 n [5, 0, 1, 2, 3, 4, 7, 8, 9, 10, 14, 15, 16, 17, 21, 22, 23, 24, 28, 29, 30, 31] jn S Q b sl xp p b9 x_2898),
  (newB [.int .i64 (1 : Int)] ty_int fun b_2899 =>
  keepS true S <|
  arc_Engine_State_s6 n [11, 0, 1, 2, 3, 4, 7, 8, 9, 10, 14, 15, 16, 17, 21, 22, 23, 24, 28, 29, 30, 31] jn S Q b sl xp p b9 b_2899),
  (newB [.int .i64 (2 : Int)] ty_int fun b_2900 =>
  keepS true S <|
  arc_Engine_State_s7 n [18, 0, 1, 2, 3, 4, 7, 8, 9, 10, 14, 15, 16, 17, 21, 22, 23, 24, 28, 29, 30, 31] jn S Q b sl xp p b9 b_2900),
  (newB [.int .i64 (3 : Int)] ty_int fun b_2901 =>
  keepS true S <|
  arc_Engine_State_s8 n [25, 0, 1, 2, 3, 4, 7, 8, 9, 10, 14, 15, 16, 17, 21, 22, 23, 24, 28, 29, 30, 31] jn S Q b sl xp p b9 b_2901)]) := by kernel_rfl
theorem arc_Engine_State_s2_raw (n : Nat) (jn : Jn) (S : World → Prop) (Q : Value → WP) (b : Nat) (sl : Sl) (xp : Option Addr) (p : Int) (b16 : Nat) : arc_Engine_State_s2 (n + 1) [0, 1, 2, 3, 7, 8, 9, 10, 11, 14, 15, 16, 17, 21, 22, 23, 24, 28, 29, 30, 31] jn S Q b sl xp p b16 = (
  allW [
  (newB [.int .i64 (0 : Int)] ty_int fun b_2902 =>
  keepS true S <|
  arc_Engine_State_s6 n [4, 0, 1, 2, 3, 7, 8, 9, 10, 11, 14, 15, 16, 17, 21, 22, 23, 24, 28, 29, 30, 31] jn S Q b sl xp p b_2902 b16),
  (newB [.int .i64 (2 : Int)] ty_int fun b_2903 =>
  keepS true S <|
  arc_Engine_State_s9 n [18, 0, 1, 2, 3, 7, 8, 9, 10, 11, 14, 15, 16, 17, 21, 22, 23, 24, 28, 29, 30, 31] jn S Q b sl xp p b16 b_2903),
  (newB [.int .i64 (3 : Int)] ty_int fun b_2904 =>
  keepS true S <|
  arc_Engine_State_s10 n [25, 0, 1, 2, 3, 7, 8, 9, 10, 11, 14, 15, 16, 17, 21, 22, 23, 24, 28, 29, 30, 31] jn S Q b sl xp p b16 b_2904)]) := by kernel_rfl
theorem arc_Engine_State_s3_raw (n : Nat) (jn : Jn) (S : World → Prop) (Q : Value → WP) (b : Nat) (sl : Sl) (xp : Option Addr) (p : Int) (b23 : Nat) : arc_Engine_State_s3 (n + 1) [0, 1, 2, 3, 7, 8, 9, 10, 14, 15, 16, 17, 18, 21, 22, 23, 24, 28, 29, 30, 31] jn S Q b sl xp p b23 = (
  allW [
  (newB [.int .i64 (0 : Int)] ty_int fun b_2905 =>
  keepS true S <|
  arc_Engine_State_s7 n [4, 0, 1, 2, 3, 7, 8, 9, 10, 14, 15, 16, 17, 18, 21, 22, 23, 24, 28, 29, 30, 31] jn S Q b sl xp p b_2905 b23),
  (newB [.int .i64 (1 : Int)] ty_int fun b_2906 =>
  keepS true S <|
  arc_Engine_State_s9 n [11, 0, 1, 2, 3, 7, 8, 9, 10, 14, 15, 16, 17, 18, 21, 22, 23, 24, 28, 29, 30, 31] jn S Q b sl xp p b_2906 b23),
  (newB [.int .i64 (3 : Int)] ty_int fun b_2907 =>
  keepS true S <|
  arc_Engine_State_s11 n [25, 0, 1, 2, 3, 7, 8, 9, 10, 14, 15, 16, 17, 18, 21, 22, 23, 24, 28, 29, 30, 31] jn S Q b sl xp p b23 b_2907)]) := by kernel_rfl
theorem arc_Engine_State_s4_raw (n : Nat) (jn : Jn) (S : World → Prop) (Q : Value → WP) (b : Nat) (sl : Sl) (xp : Option Addr) (p : Int) (b30 : Nat) : arc_Engine_State_s4 (n + 1) [0, 1, 2, 3, 7, 8, 9, 10, 14, 15, 16, 17, 21, 22, 23, 24, 25, 28, 29, 30, 31] jn S Q b sl xp p b30 = (
  allW [
  (newB [.int .i64 (0 : Int)] ty_int fun b_2908 =>
  keepS true S <|
  arc_Engine_State_s8 n [4, 0, 1, 2, 3, 7, 8, 9, 10, 14, 15, 16, 17, 21, 22, 23, 24, 25, 28, 29, 30, 31] jn S Q b sl xp p b_2908 b30),
  (newB [.int .i64 (1 : Int)] ty_int fun b_2909 =>
  keepS true S <|
  arc_Engine_State_s10 n [11, 0, 1, 2, 3, 7, 8, 9, 10, 14, 15, 16, 17, 21, 22, 23, 24, 25, 28, 29, 30, 31] jn S Q b sl xp p b_2909 b30),
  (newB [.int .i64 (2 : Int)] ty_int fun b_2910 =>
  keepS true S <|
  arc_Engine_State_s11 n [18, 0, 1, 2, 3, 7, 8, 9, 10, 14, 15, 16, 17, 21, 22, 23, 24, 25, 28, 29, 30, 31] jn S Q b sl xp p b_2910 b30)]) := by kernel_rfl
theorem arc_Engine_State_s5_raw (n : Nat) (jn : Jn) (S : World → Prop) (Q : Value → WP) (b : Nat) (sl : Sl) (xp : Option Addr) (p : Int) (b9 : Nat) (t10 : Sl) : arc_Engine_State_s5 (n + 1) [0, 1, 2, 3, 4, 5, 7, 8, 9, 10, 14, 15, 16, 17, 21, 22, 23, 24, 28, 29, 30, 31] jn S Q b sl xp p b9 t10 = (
  allW [
  (call1 .str Tryd.prog id_arc_text [.string str_T1, .slice t10.a t10.n t10.c] fun (x_2911 : ByteArray) =>
  keepS true S <|
  arc_Engine_State_s12 n [6, 0, 1, 2, 3, 4, 5, 7, 8, 9, 10, 14, 15, 16, 17, 21, 22, 23, 24, 28, 29, 30, 31] jn S Q b sl xp p b9 t10 x_2911),
  (newB [.int .i64 (1 : Int)] ty_int fun b_2912 =>
  keepS true S <|
  arc_Engine_State_s13 n [11, 0, 1, 2, 3, 4, 5, 7, 8, 9, 10, 14, 15, 16, 17, 21, 22, 23, 24, 28, 29, 30, 31] jn S Q b sl xp p b9 t10 b_2912),
  (newB [.int .i64 (2 : Int)] ty_int fun b_2913 =>
  keepS true S <|
  arc_Engine_State_s14 n [18, 0, 1, 2, 3, 4, 5, 7, 8, 9, 10, 14, 15, 16, 17, 21, 22, 23, 24, 28, 29, 30, 31] jn S Q b sl xp p b9 t10 b_2913),
  (newB [.int .i64 (3 : Int)] ty_int fun b_2914 =>
  keepS true S <|
  arc_Engine_State_s15 n [25, 0, 1, 2, 3, 4, 5, 7, 8, 9, 10, 14, 15, 16, 17, 21, 22, 23, 24, 28, 29, 30, 31] jn S Q b sl xp p b9 t10 b_2914)]) := by kernel_rfl
theorem arc_Engine_State_s6_raw (n : Nat) (jn : Jn) (S : World → Prop) (Q : Value → WP) (b : Nat) (sl : Sl) (xp : Option Addr) (p : Int) (b9 : Nat) (b16 : Nat) : arc_Engine_State_s6 (n + 1) [0, 1, 2, 3, 4, 7, 8, 9, 10, 11, 14, 15, 16, 17, 21, 22, 23, 24, 28, 29, 30, 31] jn S Q b sl xp p b9 b16 = (
  allW [
  (call1 .slc Tryd.prog id_arc_rows_keys [.agg #[.slice sl.a sl.n sl.c, .pointer xp], .slice (some ⟨b9, 0, none⟩) 1 1] fun (x_2915 : Sl) =>
  keepS true S <|
  arc_Engine_State_s13 n [5, 0, 1, 2, 3, 4, 7, 8, 9, 10, 11, 14, 15, 16, 17, 21, 22, 23, 24, 28, 29, 30, 31] jn S Q b sl xp p b9 x_2915 b16),
  (newB [.int .i64 (2 : Int)] ty_int fun b_2916 =>
  keepS true S <|
  arc_Engine_State_s16 n [18, 0, 1, 2, 3, 4, 7, 8, 9, 10, 11, 14, 15, 16, 17, 21, 22, 23, 24, 28, 29, 30, 31] jn S Q b sl xp p b9 b16 b_2916),
  (newB [.int .i64 (3 : Int)] ty_int fun b_2917 =>
  keepS true S <|
  arc_Engine_State_s17 n [25, 0, 1, 2, 3, 4, 7, 8, 9, 10, 11, 14, 15, 16, 17, 21, 22, 23, 24, 28, 29, 30, 31] jn S Q b sl xp p b9 b16 b_2917)]) := by kernel_rfl
theorem arc_Engine_State_s7_raw (n : Nat) (jn : Jn) (S : World → Prop) (Q : Value → WP) (b : Nat) (sl : Sl) (xp : Option Addr) (p : Int) (b9 : Nat) (b23 : Nat) : arc_Engine_State_s7 (n + 1) [0, 1, 2, 3, 4, 7, 8, 9, 10, 14, 15, 16, 17, 18, 21, 22, 23, 24, 28, 29, 30, 31] jn S Q b sl xp p b9 b23 = (
  allW [
  (call1 .slc Tryd.prog id_arc_rows_keys [.agg #[.slice sl.a sl.n sl.c, .pointer xp], .slice (some ⟨b9, 0, none⟩) 1 1] fun (x_2918 : Sl) =>
  keepS true S <|
  arc_Engine_State_s14 n [5, 0, 1, 2, 3, 4, 7, 8, 9, 10, 14, 15, 16, 17, 18, 21, 22, 23, 24, 28, 29, 30, 31] jn S Q b sl xp p b9 x_2918 b23),
  (newB [.int .i64 (1 : Int)] ty_int fun b_2919 =>
  keepS true S <|
  arc_Engine_State_s16 n [11, 0, 1, 2, 3, 4, 7, 8, 9, 10, 14, 15, 16, 17, 18, 21, 22, 23, 24, 28, 29, 30, 31] jn S Q b sl xp p b9 b_2919 b23),
  (newB [.int .i64 (3 : Int)] ty_int fun b_2920 =>
  keepS true S <|
  arc_Engine_State_s18 n [25, 0, 1, 2, 3, 4, 7, 8, 9, 10, 14, 15, 16, 17, 18, 21, 22, 23, 24, 28, 29, 30, 31] jn S Q b sl xp p b9 b23 b_2920)]) := by kernel_rfl
theorem arc_Engine_State_s8_raw (n : Nat) (jn : Jn) (S : World → Prop) (Q : Value → WP) (b : Nat) (sl : Sl) (xp : Option Addr) (p : Int) (b9 : Nat) (b30 : Nat) : arc_Engine_State_s8 (n + 1) [0, 1, 2, 3, 4, 7, 8, 9, 10, 14, 15, 16, 17, 21, 22, 23, 24, 25, 28, 29, 30, 31] jn S Q b sl xp p b9 b30 = (
  allW [
  (call1 .slc Tryd.prog id_arc_rows_keys [.agg #[.slice sl.a sl.n sl.c, .pointer xp], .slice (some ⟨b9, 0, none⟩) 1 1] fun (x_2921 : Sl) =>
  keepS true S <|
  arc_Engine_State_s15 n [5, 0, 1, 2, 3, 4, 7, 8, 9, 10, 14, 15, 16, 17, 21, 22, 23, 24, 25, 28, 29, 30, 31] jn S Q b sl xp p b9 x_2921 b30),
  (newB [.int .i64 (1 : Int)] ty_int fun b_2922 =>
  keepS true S <|
  arc_Engine_State_s17 n [11, 0, 1, 2, 3, 4, 7, 8, 9, 10, 14, 15, 16, 17, 21, 22, 23, 24, 25, 28, 29, 30, 31] jn S Q b sl xp p b9 b_2922 b30),
  (newB [.int .i64 (2 : Int)] ty_int fun b_2923 =>
  keepS true S <|
  arc_Engine_State_s18 n [18, 0, 1, 2, 3, 4, 7, 8, 9, 10, 14, 15, 16, 17, 21, 22, 23, 24, 25, 28, 29, 30, 31] jn S Q b sl xp p b9 b_2923 b30)]) := by kernel_rfl
theorem arc_Engine_State_s9_raw (n : Nat) (jn : Jn) (S : World → Prop) (Q : Value → WP) (b : Nat) (sl : Sl) (xp : Option Addr) (p : Int) (b16 : Nat) (b23 : Nat) : arc_Engine_State_s9 (n + 1) [0, 1, 2, 3, 7, 8, 9, 10, 11, 14, 15, 16, 17, 18, 21, 22, 23, 24, 28, 29, 30, 31] jn S Q b sl xp p b16 b23 = (
  allW [
  (newB [.int .i64 (0 : Int)] ty_int fun b_2924 =>
  keepS true S <|
  arc_Engine_State_s16 n [4, 0, 1, 2, 3, 7, 8, 9, 10, 11, 14, 15, 16, 17, 18, 21, 22, 23, 24, 28, 29, 30, 31] jn S Q b sl xp p b_2924 b16 b23),
  (newB [.int .i64 (3 : Int)] ty_int fun b_2925 =>
  keepS true S <|
  arc_Engine_State_s19 n [25, 0, 1, 2, 3, 7, 8, 9, 10, 11, 14, 15, 16, 17, 18, 21, 22, 23, 24, 28, 29, 30, 31] jn S Q b sl xp p b16 b23 b_2925)]) := by kernel_rfl
theorem arc_Engine_State_s10_raw (n : Nat) (jn : Jn) (S : World → Prop) (Q : Value → WP) (b : Nat) (sl : Sl) (xp : Option Addr) (p : Int) (b16 : Nat) (b30 : Nat) : arc_Engine_State_s10 (n + 1) [0, 1, 2, 3, 7, 8, 9, 10, 11, 14, 15, 16, 17, 21, 22, 23, 24, 25, 28, 29, 30, 31] jn S Q b sl xp p b16 b30 = (
  allW [
  (newB [.int .i64 (0 : Int)] ty_int fun b_2926 =>
  keepS true S <|
  arc_Engine_State_s17 n [4, 0, 1, 2, 3, 7, 8, 9, 10, 11, 14, 15, 16, 17, 21, 22, 23, 24, 25, 28, 29, 30, 31] jn S Q b sl xp p b_2926 b16 b30),
  (newB [.int .i64 (2 : Int)] ty_int fun b_2927 =>
  keepS true S <|
  arc_Engine_State_s19 n [18, 0, 1, 2, 3, 7, 8, 9, 10, 11, 14, 15, 16, 17, 21, 22, 23, 24, 25, 28, 29, 30, 31] jn S Q b sl xp p b16 b_2927 b30)]) := by kernel_rfl
theorem arc_Engine_State_s11_raw (n : Nat) (jn : Jn) (S : World → Prop) (Q : Value → WP) (b : Nat) (sl : Sl) (xp : Option Addr) (p : Int) (b23 : Nat) (b30 : Nat) : arc_Engine_State_s11 (n + 1) [0, 1, 2, 3, 7, 8, 9, 10, 14, 15, 16, 17, 18, 21, 22, 23, 24, 25, 28, 29, 30, 31] jn S Q b sl xp p b23 b30 = (
  allW [
  (newB [.int .i64 (0 : Int)] ty_int fun b_2928 =>
  keepS true S <|
  arc_Engine_State_s18 n [4, 0, 1, 2, 3, 7, 8, 9, 10, 14, 15, 16, 17, 18, 21, 22, 23, 24, 25, 28, 29, 30, 31] jn S Q b sl xp p b_2928 b23 b30),
  (newB [.int .i64 (1 : Int)] ty_int fun b_2929 =>
  keepS true S <|
  arc_Engine_State_s19 n [11, 0, 1, 2, 3, 7, 8, 9, 10, 14, 15, 16, 17, 18, 21, 22, 23, 24, 25, 28, 29, 30, 31] jn S Q b sl xp p b_2929 b23 b30)]) := by kernel_rfl
theorem arc_Engine_State_s12_raw (n : Nat) (jn : Jn) (S : World → Prop) (Q : Value → WP) (b : Nat) (sl : Sl) (xp : Option Addr) (p : Int) (b9 : Nat) (t10 : Sl) (t11 : ByteArray) : arc_Engine_State_s12 (n + 1) [0, 1, 2, 3, 4, 5, 6, 7, 8, 9, 10, 14, 15, 16, 17, 21, 22, 23, 24, 28, 29, 30, 31] jn S Q b sl xp p b9 t10 t11 = (
  allW [
  (newB [.int .i64 (1 : Int)] ty_int fun b_2930 =>
  keepS true S <|
  arc_Engine_State_s20 n [11, 0, 1, 2, 3, 4, 5, 6, 7, 8, 9, 10, 14, 15, 16, 17, 21, 22, 23, 24, 28, 29, 30, 31] jn S Q b sl xp p b9 t10 t11 b_2930),
  (newB [.int .i64 (2 : Int)] ty_int fun b_2931 =>
  keepS true S <|
  arc_Engine_State_s21 n [18, 0, 1, 2, 3, 4, 5, 6, 7, 8, 9, 10, 14, 15, 16, 17, 21, 22, 23, 24, 28, 29, 30, 31] jn S Q b sl xp p b9 t10 t11 b_2931),
  (newB [.int .i64 (3 : Int)] ty_int fun b_2932 =>
  keepS true S <|
  arc_Engine_State_s22 n [25, 0, 1, 2, 3, 4, 5, 6, 7, 8, 9, 10, 14, 15, 16, 17, 21, 22, 23, 24, 28, 29, 30, 31] jn S Q b sl xp p b9 t10 t11 b_2932)]) := by kernel_rfl
theorem arc_Engine_State_s13_raw (n : Nat) (jn : Jn) (S : World → Prop) (Q : Value → WP) (b : Nat) (sl : Sl) (xp : Option Addr) (p : Int) (b9 : Nat) (t10 : Sl) (b16 : Nat) : arc_Engine_State_s13 (n + 1) [0, 1, 2, 3, 4, 5, 7, 8, 9, 10, 11, 14, 15, 16, 17, 21, 22, 23, 24, 28, 29, 30, 31] jn S Q b sl xp p b9 t10 b16 = (
  allW [
  (call1 .str Tryd.prog id_arc_text [.string str_T1, .slice t10.a t10.n t10.c] fun (x_2933 : ByteArray) =>
  keepS true S <|
  arc_Engine_State_s20 n [6, 0, 1, 2, 3, 4, 5, 7, 8, 9, 10, 11, 14, 15, 16, 17, 21, 22, 23, 24, 28, 29, 30, 31] jn S Q b sl xp p b9 t10 x_2933 b16),
  (newB [.int .i64 (2 : Int)] ty_int fun b_2934 =>
  keepS true S <|
  arc_Engine_State_s23 n [18, 0, 1, 2, 3, 4, 5, 7, 8, 9, 10, 11, 14, 15, 16, 17, 21, 22, 23, 24, 28, 29, 30, 31] jn S Q b sl xp p b9 t10 b16 b_2934),
  (newB [.int .i64 (3 : Int)] ty_int fun b_2935 =>
  keepS true S <|
  arc_Engine_State_s24 n [25, 0, 1, 2, 3, 4, 5, 7, 8, 9, 10, 11, 14, 15, 16, 17, 21, 22, 23, 24, 28, 29, 30, 31] jn S Q b sl xp p b9 t10 b16 b_2935)]) := by kernel_rfl
theorem arc_Engine_State_s14_raw (n : Nat) (jn : Jn) (S : World → Prop) (Q : Value → WP) (b : Nat) (sl : Sl) (xp : Option Addr) (p : Int) (b9 : Nat) (t10 : Sl) (b23 : Nat) : arc_Engine_State_s14 (n + 1) [0, 1, 2, 3, 4, 5, 7, 8, 9, 10, 14, 15, 16, 17, 18, 21, 22, 23, 24, 28, 29, 30, 31] jn S Q b sl xp p b9 t10 b23 = (
  allW [
  (call1 .str Tryd.prog id_arc_text [.string str_T1, .slice t10.a t10.n t10.c] fun (x_2936 : ByteArray) =>
  keepS true S <|
  arc_Engine_State_s21 n [6, 0, 1, 2, 3, 4, 5, 7, 8, 9, 10, 14, 15, 16, 17, 18, 21, 22, 23, 24, 28, 29, 30, 31] jn S Q b sl xp p b9 t10 x_2936 b23),
  (newB [.int .i64 (1 : Int)] ty_int fun b_2937 =>
  keepS true S <|
  arc_Engine_State_s23 n [11, 0, 1, 2, 3, 4, 5, 7, 8, 9, 10, 14, 15, 16, 17, 18, 21, 22, 23, 24, 28, 29, 30, 31] jn S Q b sl xp p b9 t10 b_2937 b23),
  (newB [.int .i64 (3 : Int)] ty_int fun b_2938 =>
  keepS true S <|
  arc_Engine_State_s25 n [25, 0, 1, 2, 3, 4, 5, 7, 8, 9, 10, 14, 15, 16, 17, 18, 21, 22, 23, 24, 28, 29, 30, 31] jn S Q b sl xp p b9 t10 b23 b_2938)]) := by kernel_rfl
theorem arc_Engine_State_s15_raw (n : Nat) (jn : Jn) (S : World → Prop) (Q : Value → WP) (b : Nat) (sl : Sl) (xp : Option Addr) (p : Int) (b9 : Nat) (t10 : Sl) (b30 : Nat) : arc_Engine_State_s15 (n + 1) [0, 1, 2, 3, 4, 5, 7, 8, 9, 10, 14, 15, 16, 17, 21, 22, 23, 24, 25, 28, 29, 30, 31] jn S Q b sl xp p b9 t10 b30 = (
  allW [
  (call1 .str Tryd.prog id_arc_text [.string str_T1, .slice t10.a t10.n t10.c] fun (x_2939 : ByteArray) =>
  keepS true S <|
  arc_Engine_State_s22 n [6, 0, 1, 2, 3, 4, 5, 7, 8, 9, 10, 14, 15, 16, 17, 21, 22, 23, 24, 25, 28, 29, 30, 31] jn S Q b sl xp p b9 t10 x_2939 b30),
  (newB [.int .i64 (1 : Int)] ty_int fun b_2940 =>
  keepS true S <|
  arc_Engine_State_s24 n [11, 0, 1, 2, 3, 4, 5, 7, 8, 9, 10, 14, 15, 16, 17, 21, 22, 23, 24, 25, 28, 29, 30, 31] jn S Q b sl xp p b9 t10 b_2940 b30),
  (newB [.int .i64 (2 : Int)] ty_int fun b_2941 =>
  keepS true S <|
  arc_Engine_State_s25 n [18, 0, 1, 2, 3, 4, 5, 7, 8, 9, 10, 14, 15, 16, 17, 21, 22, 23, 24, 25, 28, 29, 30, 31] jn S Q b sl xp p b9 t10 b_2941 b30)]) := by kernel_rfl
theorem arc_Engine_State_s16_raw (n : Nat) (jn : Jn) (S : World → Prop) (Q : Value → WP) (b : Nat) (sl : Sl) (xp : Option Addr) (p : Int) (b9 : Nat) (b16 : Nat) (b23 : Nat) : arc_Engine_State_s16 (n + 1) [0, 1, 2, 3, 4, 7, 8, 9, 10, 11, 14, 15, 16, 17, 18, 21, 22, 23, 24, 28, 29, 30, 31] jn S Q b sl xp p b9 b16 b23 = (
  allW [
  (call1 .slc Tryd.prog id_arc_rows_keys [.agg #[.slice sl.a sl.n sl.c, .pointer xp], .slice (some ⟨b9, 0, none⟩) 1 1] fun (x_2942 : Sl) =>
  keepS true S <|
  arc_Engine_State_s23 n [5, 0, 1, 2, 3, 4, 7, 8, 9, 10, 11, 14, 15, 16, 17, 18, 21, 22, 23, 24, 28, 29, 30, 31] jn S Q b sl xp p b9 x_2942 b16 b23),
  (newB [.int .i64 (3 : Int)] ty_int fun b_2943 =>
  keepS true S <|
  arc_Engine_State_s26 n [25, 0, 1, 2, 3, 4, 7, 8, 9, 10, 11, 14, 15, 16, 17, 18, 21, 22, 23, 24, 28, 29, 30, 31] jn S Q b sl xp p b9 b16 b23 b_2943)]) := by kernel_rfl
theorem arc_Engine_State_s17_raw (n : Nat) (jn : Jn) (S : World → Prop) (Q : Value → WP) (b : Nat) (sl : Sl) (xp : Option Addr) (p : Int) (b9 : Nat) (b16 : Nat) (b30 : Nat) : arc_Engine_State_s17 (n + 1) [0, 1, 2, 3, 4, 7, 8, 9, 10, 11, 14, 15, 16, 17, 21, 22, 23, 24, 25, 28, 29, 30, 31] jn S Q b sl xp p b9 b16 b30 = (
  allW [
  (call1 .slc Tryd.prog id_arc_rows_keys [.agg #[.slice sl.a sl.n sl.c, .pointer xp], .slice (some ⟨b9, 0, none⟩) 1 1] fun (x_2944 : Sl) =>
  keepS true S <|
  arc_Engine_State_s24 n [5, 0, 1, 2, 3, 4, 7, 8, 9, 10, 11, 14, 15, 16, 17, 21, 22, 23, 24, 25, 28, 29, 30, 31] jn S Q b sl xp p b9 x_2944 b16 b30),
  (newB [.int .i64 (2 : Int)] ty_int fun b_2945 =>
  keepS true S <|
  arc_Engine_State_s26 n [18, 0, 1, 2, 3, 4, 7, 8, 9, 10, 11, 14, 15, 16, 17, 21, 22, 23, 24, 25, 28, 29, 30, 31] jn S Q b sl xp p b9 b16 b_2945 b30)]) := by kernel_rfl
theorem arc_Engine_State_s18_raw (n : Nat) (jn : Jn) (S : World → Prop) (Q : Value → WP) (b : Nat) (sl : Sl) (xp : Option Addr) (p : Int) (b9 : Nat) (b23 : Nat) (b30 : Nat) : arc_Engine_State_s18 (n + 1) [0, 1, 2, 3, 4, 7, 8, 9, 10, 14, 15, 16, 17, 18, 21, 22, 23, 24, 25, 28, 29, 30, 31] jn S Q b sl xp p b9 b23 b30 = (
  allW [
  (call1 .slc Tryd.prog id_arc_rows_keys [.agg #[.slice sl.a sl.n sl.c, .pointer xp], .slice (some ⟨b9, 0, none⟩) 1 1] fun (x_2946 : Sl) =>
  keepS true S <|
  arc_Engine_State_s25 n [5, 0, 1, 2, 3, 4, 7, 8, 9, 10, 14, 15, 16, 17, 18, 21, 22, 23, 24, 25, 28, 29, 30, 31] jn S Q b sl xp p b9 x_2946 b23 b30),
  (newB [.int .i64 (1 : Int)] ty_int fun b_2947 =>
  keepS true S <|
  arc_Engine_State_s26 n [11, 0, 1, 2, 3, 4, 7, 8, 9, 10, 14, 15, 16, 17, 18, 21, 22, 23, 24, 25, 28, 29, 30, 31] jn S Q b sl xp p b9 b_2947 b23 b30)]) := by kernel_rfl
theorem arc_Engine_State_s19_raw (n : Nat) (jn : Jn) (S : World → Prop) (Q : Value → WP) (b : Nat) (sl : Sl) (xp : Option Addr) (p : Int) (b16 : Nat) (b23 : Nat) (b30 : Nat) : arc_Engine_State_s19 (n + 1) [0, 1, 2, 3, 7, 8, 9, 10, 11, 14, 15, 16, 17, 18, 21, 22, 23, 24, 25, 28, 29, 30, 31] jn S Q b sl xp p b16 b23 b30 = (
  newB [.int .i64 (0 : Int)] ty_int fun b_2948 =>
  keepS true S <|
  arc_Engine_State_s26 n [4, 0, 1, 2, 3, 7, 8, 9, 10, 11, 14, 15, 16, 17, 18, 21, 22, 23, 24, 25, 28, 29, 30, 31] jn S Q b sl xp p b_2948 b16 b23 b30) := by kernel_rfl
theorem arc_Engine_State_s20_raw (n : Nat) (jn : Jn) (S : World → Prop) (Q : Value → WP) (b : Nat) (sl : Sl) (xp : Option Addr) (p : Int) (b9 : Nat) (t10 : Sl) (t11 : ByteArray) (b16 : Nat) : arc_Engine_State_s20 (n + 1) [0, 1, 2, 3, 4, 5, 6, 7, 8, 9, 10, 11, 14, 15, 16, 17, 21, 22, 23, 24, 28, 29, 30, 31] jn S Q b sl xp p b9 t10 t11 b16 = (
  allW [
  (call1 .slc Tryd.prog id_arc_rows_keys [.agg #[.slice sl.a sl.n sl.c, .pointer xp], .slice (some ⟨b16, 0, none⟩) 1 1] fun (x_2949 : Sl) =>
  keepS true S <|
  arc_Engine_State_s27 n [12, 0, 1, 2, 3, 4, 5, 6, 7, 8, 9, 10, 11, 14, 15, 16, 17, 21, 22, 23, 24, 28, 29, 30, 31] jn S Q b sl xp p b9 t10 t11 b16 x_2949),
  (newB [.int .i64 (2 : Int)] ty_int fun b_2950 =>
  keepS true S <|
  arc_Engine_State_s28 n [18, 0, 1, 2, 3, 4, 5, 6, 7, 8, 9, 10, 11, 14, 15, 16, 17, 21, 22, 23, 24, 28, 29, 30, 31] jn S Q b sl xp p b9 t10 t11 b16 b_2950),
  (newB [.int .i64 (3 : Int)] ty_int fun b_2951 =>
  keepS true S <|
  arc_Engine_State_s29 n [25, 0, 1, 2, 3, 4, 5, 6, 7, 8, 9, 10, 11, 14, 15, 16, 17, 21, 22, 23, 24, 28, 29, 30, 31] jn S Q b sl xp p b9 t10 t11 b16 b_2951)]) := by kernel_rfl
theorem arc_Engine_State_s21_raw (n : Nat) (jn : Jn) (S : World → Prop) (Q : Value → WP) (b : Nat) (sl : Sl) (xp : Option Addr) (p : Int) (b9 : Nat) (t10 : Sl) (t11 : ByteArray) (b23 : Nat) : arc_Engine_State_s21 (n + 1) [0, 1, 2, 3, 4, 5, 6, 7, 8, 9, 10, 14, 15, 16, 17, 18, 21, 22, 23, 24, 28, 29, 30, 31] jn S Q b sl xp p b9 t10 t11 b23 = (
  allW [
  (newB [.int .i64 (1 : Int)] ty_int fun b_2952 =>
  keepS true S <|
  arc_Engine_State_s28 n [11, 0, 1, 2, 3, 4, 5, 6, 7, 8, 9, 10, 14, 15, 16, 17, 18, 21, 22, 23, 24, 28, 29, 30, 31] jn S Q b sl xp p b9 t10 t11 b_2952 b23),
  (newB [.int .i64 (3 : Int)] ty_int fun b_2953 =>
  keepS true S <|
  arc_Engine_State_s30 n [25, 0, 1, 2, 3, 4, 5, 6, 7, 8, 9, 10, 14, 15, 16, 17, 18, 21, 22, 23, 24, 28, 29, 30, 31] jn S Q b sl xp p b9 t10 t11 b23 b_2953)]) := by kernel_rfl
theorem arc_Engine_State_s22_raw (n : Nat) (jn : Jn) (S : World → Prop) (Q : Value → WP) (b : Nat) (sl : Sl) (xp : Option Addr) (p : Int) (b9 : Nat) (t10 : Sl) (t11 : ByteArray) (b30 : Nat) : arc_Engine_State_s22 (n + 1) [0, 1, 2, 3, 4, 5, 6, 7, 8, 9, 10, 14, 15, 16, 17, 21, 22, 23, 24, 25, 28, 29, 30, 31] jn S Q b sl xp p b9 t10 t11 b30 = (
  allW [
  (newB [.int .i64 (1 : Int)] ty_int fun b_2954 =>
  keepS true S <|
  arc_Engine_State_s29 n [11, 0, 1, 2, 3, 4, 5, 6, 7, 8, 9, 10, 14, 15, 16, 17, 21, 22, 23, 24, 25, 28, 29, 30, 31] jn S Q b sl xp p b9 t10 t11 b_2954 b30),
  (newB [.int .i64 (2 : Int)] ty_int fun b_2955 =>
  keepS true S <|
  arc_Engine_State_s30 n [18, 0, 1, 2, 3, 4, 5, 6, 7, 8, 9, 10, 14, 15, 16, 17, 21, 22, 23, 24, 25, 28, 29, 30, 31] jn S Q b sl xp p b9 t10 t11 b_2955 b30)]) := by kernel_rfl
theorem arc_Engine_State_s23_raw (n : Nat) (jn : Jn) (S : World → Prop) (Q : Value → WP) (b : Nat) (sl : Sl) (xp : Option Addr) (p : Int) (b9 : Nat) (t10 : Sl) (b16 : Nat) (b23 : Nat) : arc_Engine_State_s23 (n + 1) [0, 1, 2, 3, 4, 5, 7, 8, 9, 10, 11, 14, 15, 16, 17, 18, 21, 22, 23, 24, 28, 29, 30, 31] jn S Q b sl xp p b9 t10 b16 b23 = (
  allW [
  (call1 .str Tryd.prog id_arc_text [.string str_T1, .slice t10.a t10.n t10.c] fun (x_2956 : ByteArray) =>
  keepS true S <|
  arc_Engine_State_s28 n [6, 0, 1, 2, 3, 4, 5, 7, 8, 9, 10, 11, 14, 15, 16, 17, 18, 21, 22, 23, 24, 28, 29, 30, 31] jn S Q b sl xp p b9 t10 x_2956 b16 b23),
  (newB [.int .i64 (3 : Int)] ty_int fun b_2957 =>
  keepS true S <|
  arc_Engine_State_s31 n [25, 0, 1, 2, 3, 4, 5, 7, 8, 9, 10, 11, 14, 15, 16, 17, 18, 21, 22, 23, 24, 28, 29, 30, 31] jn S Q b sl xp p b9 t10 b16 b23 b_2957)]) := by kernel_rfl
theorem arc_Engine_State_s24_raw (n : Nat) (jn : Jn) (S : World → Prop) (Q : Value → WP) (b : Nat) (sl : Sl) (xp : Option Addr) (p : Int) (b9 : Nat) (t10 : Sl) (b16 : Nat) (b30 : Nat) : arc_Engine_State_s24 (n + 1) [0, 1, 2, 3, 4, 5, 7, 8, 9, 10, 11, 14, 15, 16, 17, 21, 22, 23, 24, 25, 28, 29, 30, 31] jn S Q b sl xp p b9 t10 b16 b30 = (
  allW [
  (call1 .str Tryd.prog id_arc_text [.string str_T1, .slice t10.a t10.n t10.c] fun (x_2958 : ByteArray) =>
  keepS true S <|
  arc_Engine_State_s29 n [6, 0, 1, 2, 3, 4, 5, 7, 8, 9, 10, 11, 14, 15, 16, 17, 21, 22, 23, 24, 25, 28, 29, 30, 31] jn S Q b sl xp p b9 t10 x_2958 b16 b30),
  (newB [.int .i64 (2 : Int)] ty_int fun b_2959 =>
  keepS true S <|
  arc_Engine_State_s31 n [18, 0, 1, 2, 3, 4, 5, 7, 8, 9, 10, 11, 14, 15, 16, 17, 21, 22, 23, 24, 25, 28, 29, 30, 31] jn S Q b sl xp p b9 t10 b16 b_2959 b30)]) := by kernel_rfl
theorem arc_Engine_State_s25_raw (n : Nat) (jn : Jn) (S : World → Prop) (Q : Value → WP) (b : Nat) (sl : Sl) (xp : Option Addr) (p : Int) (b9 : Nat) (t10 : Sl) (b23 : Nat) (b30 : Nat) : arc_Engine_State_s25 (n + 1) [0, 1, 2, 3, 4, 5, 7, 8, 9, 10, 14, 15, 16, 17, 18, 21, 22, 23, 24, 25, 28, 29, 30, 31] jn S Q b sl xp p b9 t10 b23 b30 = (
  allW [
  (call1 .str Tryd.prog id_arc_text [.string str_T1, .slice t10.a t10.n t10.c] fun (x_2960 : ByteArray) =>
  keepS true S <|
  arc_Engine_State_s30 n [6, 0, 1, 2, 3, 4, 5, 7, 8, 9, 10, 14, 15, 16, 17, 18, 21, 22, 23, 24, 25, 28, 29, 30, 31] jn S Q b sl xp p b9 t10 x_2960 b23 b30),
  (newB [.int .i64 (1 : Int)] ty_int fun b_2961 =>
  keepS true S <|
  arc_Engine_State_s31 n [11, 0, 1, 2, 3, 4, 5, 7, 8, 9, 10, 14, 15, 16, 17, 18, 21, 22, 23, 24, 25, 28, 29, 30, 31] jn S Q b sl xp p b9 t10 b_2961 b23 b30)]) := by kernel_rfl
theorem arc_Engine_State_s26_raw (n : Nat) (jn : Jn) (S : World → Prop) (Q : Value → WP) (b : Nat) (sl : Sl) (xp : Option Addr) (p : Int) (b9 : Nat) (b16 : Nat) (b23 : Nat) (b30 : Nat) : arc_Engine_State_s26 (n + 1) [0, 1, 2, 3, 4, 7, 8, 9, 10, 11, 14, 15, 16, 17, 18, 21, 22, 23, 24, 25, 28, 29, 30, 31] jn S Q b sl xp p b9 b16 b23 b30 = (
  call1 .slc Tryd.prog id_arc_rows_keys [.agg #[.slice sl.a sl.n sl.c, .pointer xp], .slice (some ⟨b9, 0, none⟩) 1 1] fun (x_2962 : Sl) =>
  keepS true S <|
  arc_Engine_State_s31 n [5, 0, 1, 2, 3, 4, 7, 8, 9, 10, 11, 14, 15, 16, 17, 18, 21, 22, 23, 24, 25, 28, 29, 30, 31] jn S Q b sl xp p b9 x_2962 b16 b23 b30) := by kernel_rfl
theorem arc_Engine_State_s27_raw (n : Nat) (jn : Jn) (S : World → Prop) (Q : Value → WP) (b : Nat) (sl : Sl) (xp : Option Addr) (p : Int) (b9 : Nat) (t10 : Sl) (t11 : ByteArray) (b16 : Nat) (t17 : Sl) : arc_Engine_State_s27 (n + 1) [0, 1, 2, 3, 4, 5, 6, 7, 8, 9, 10, 11, 12, 14, 15, 16, 17, 21, 22, 23, 24, 28, 29, 30, 31] jn S Q b sl xp p b9 t10 t11 b16 t17 = (
  allW [
  (call1 .str Tryd.prog id_arc_text [.string str_T2, .slice t17.a t17.n t17.c] fun (x_2963 : ByteArray) =>
  keepS true S <|
  arc_Engine_State_s32 n [13, 0, 1, 2, 3, 4, 5, 6, 7, 8, 9, 10, 11, 12, 14, 15, 16, 17, 21, 22, 23, 24, 28, 29, 30, 31] jn S Q b sl xp p b9 t10 t11 b16 t17 x_2963),
  (newB [.int .i64 (2 : Int)] ty_int fun b_2964 =>
  keepS true S <|
  arc_Engine_State_s33 n [18, 0, 1, 2, 3, 4, 5, 6, 7, 8, 9, 10, 11, 12, 14, 15, 16, 17, 21, 22, 23, 24, 28, 29, 30, 31] jn S Q b sl xp p b9 t10 t11 b16 t17 b_2964),
  (newB [.int .i64 (3 : Int)] ty_int fun b_2965 =>
  keepS true S <|
  arc_Engine_State_s34 n [25, 0, 1, 2, 3, 4, 5, 6, 7, 8, 9, 10, 11, 12, 14, 15, 16, 17, 21, 22, 23, 24, 28, 29, 30, 31] jn S Q b sl xp p b9 t10 t11 b16 t17 b_2965)]) := by kernel_rfl
theorem arc_Engine_State_s28_raw (n : Nat) (jn : Jn) (S : World → Prop) (Q : Value → WP) (b : Nat) (sl : Sl) (xp : Option Addr) (p : Int) (b9 : Nat) (t10 : Sl) (t11 : ByteArray) (b16 : Nat) (b23 : Nat) : arc_Engine_State_s28 (n + 1) [0, 1, 2, 3, 4, 5, 6, 7, 8, 9, 10, 11, 14, 15, 16, 17, 18, 21, 22, 23, 24, 28, 29, 30, 31] jn S Q b sl xp p b9 t10 t11 b16 b23 = (
  allW [
  (call1 .slc Tryd.prog id_arc_rows_keys [.agg #[.slice sl.a sl.n sl.c, .pointer xp], .slice (some ⟨b16, 0, none⟩) 1 1] fun (x_2966 : Sl) =>
  keepS true S <|
  arc_Engine_State_s33 n [12, 0, 1, 2, 3, 4, 5, 6, 7, 8, 9, 10, 11, 14, 15, 16, 17, 18, 21, 22, 23, 24, 28, 29, 30, 31] jn S Q b sl xp p b9 t10 t11 b16 x_2966 b23),
  (newB [.int .i64 (3 : Int)] ty_int fun b_2967 =>
  keepS true S <|
  arc_Engine_State_s35 n [25, 0, 1, 2, 3, 4, 5, 6, 7, 8, 9, 10, 11, 14, 15, 16, 17, 18, 21, 22, 23, 24, 28, 29, 30, 31] jn S Q b sl xp p b9 t10 t11 b16 b23 b_2967)]) := by kernel_rfl
theorem arc_Engine_State_s29_raw (n : Nat) (jn : Jn) (S : World → Prop) (Q : Value → WP) (b : Nat) (sl : Sl) (xp : Option Addr) (p : Int) (b9 : Nat) (t10 : Sl) (t11 : ByteArray) (b16 : Nat) (b30 : Nat) : arc_Engine_State_s29 (n + 1) [0, 1, 2, 3, 4, 5, 6, 7, 8, 9, 10, 11, 14, 15, 16, 17, 21, 22, 23, 24, 25, 28, 29, 30, 31] jn S Q b sl xp p b9 t10 t11 b16 b30 = (
  allW [
  (call1 .slc Tryd.prog id_arc_rows_keys [.agg #[.slice sl.a sl.n sl.c, .pointer xp], .slice (some ⟨b16, 0, none⟩) 1 1] fun (x_2968 : Sl) =>
  keepS true S <|
  arc_Engine_State_s34 n [12, 0, 1, 2, 3, 4, 5, 6, 7, 8, 9, 10, 11, 14, 15, 16, 17, 21, 22, 23, 24, 25, 28, 29, 30, 31] jn S Q b sl xp p b9 t10 t11 b16 x_2968 b30),
  (newB [.int .i64 (2 : Int)] ty_int fun b_2969 =>
  keepS true S <|
  arc_Engine_State_s35 n [18, 0, 1, 2, 3, 4, 5, 6, 7, 8, 9, 10, 11, 14, 15, 16, 17, 21, 22, 23, 24, 25, 28, 29, 30, 31] jn S Q b sl xp p b9 t10 t11 b16 b_2969 b30)]) := by kernel_rfl
theorem arc_Engine_State_s30_raw (n : Nat) (jn : Jn) (S : World → Prop) (Q : Value → WP) (b : Nat) (sl : Sl) (xp : Option Addr) (p : Int) (b9 : Nat) (t10 : Sl) (t11 : ByteArray) (b23 : Nat) (b30 : Nat) : arc_Engine_State_s30 (n + 1) [0, 1, 2, 3, 4, 5, 6, 7, 8, 9, 10, 14, 15, 16, 17, 18, 21, 22, 23, 24, 25, 28, 29, 30, 31] jn S Q b sl xp p b9 t10 t11 b23 b30 = (
  newB [.int .i64 (1 : Int)] ty_int fun b_2970 =>
  keepS true S <|
  arc_Engine_State_s35 n [11, 0, 1, 2, 3, 4, 5, 6, 7, 8, 9, 10, 14, 15, 16, 17, 18, 21, 22, 23, 24, 25, 28, 29, 30, 31] jn S Q b sl xp p b9 t10 t11 b_2970 b23 b30) := by kernel_rfl
theorem arc_Engine_State_s31_raw (n : Nat) (jn : Jn) (S : World → Prop) (Q : Value → WP) (b : Nat) (sl : Sl) (xp : Option Addr) (p : Int) (b9 : Nat) (t10 : Sl) (b16 : Nat) (b23 : Nat) (b30 : Nat) : arc_Engine_State_s31 (n + 1) [0, 1, 2, 3, 4, 5, 7, 8, 9, 10, 11, 14, 15, 16, 17, 18, 21, 22, 23, 24, 25, 28, 29, 30, 31] jn S Q b sl xp p b9 t10 b16 b23 b30 = (
  call1 .str Tryd.prog id_arc_text [.string str_T1, .slice t10.a t10.n t10.c] fun (x_2971 : ByteArray) =>
  keepS true S <|
  arc_Engine_State_s35 n [6, 0, 1, 2, 3, 4, 5, 7, 8, 9, 10, 11, 14, 15, 16, 17, 18, 21, 22, 23, 24, 25, 28, 29, 30, 31] jn S Q b sl xp p b9 t10 x_2971 b16 b23 b30) := by kernel_rfl
theorem arc_Engine_State_s32_raw (n : Nat) (jn : Jn) (S : World → Prop) (Q : Value → WP) (b : Nat) (sl : Sl) (xp : Option Addr) (p : Int) (b9 : Nat) (t10 : Sl) (t11 : ByteArray) (b16 : Nat) (t17 : Sl) (t18 : ByteArray) : arc_Engine_State_s32 (n + 1) [0, 1, 2, 3, 4, 5, 6, 7, 8, 9, 10, 11, 12, 13, 14, 15, 16, 17, 21, 22, 23, 24, 28, 29, 30, 31] jn S Q b sl xp p b9 t10 t11 b16 t17 t18 = (
  allW [
  (newB [.int .i64 (2 : Int)] ty_int fun b_2972 =>
  keepS true S <|
  arc_Engine_State_s36 n [18, 0, 1, 2, 3, 4, 5, 6, 7, 8, 9, 10, 11, 12, 13, 14, 15, 16, 17, 21, 22, 23, 24, 28, 29, 30, 31] jn S Q b sl xp p b9 t10 t11 b16 t17 t18 b_2972),
  (newB [.int .i64 (3 : Int)] ty_int fun b_2973 =>
  keepS true S <|
  arc_Engine_State_s37 n [25, 0, 1, 2, 3, 4, 5, 6, 7, 8, 9, 10, 11, 12, 13, 14, 15, 16, 17, 21, 22, 23, 24, 28, 29, 30, 31] jn S Q b sl xp p b9 t10 t11 b16 t17 t18 b_2973)]) := by kernel_rfl
theorem arc_Engine_State_s33_raw (n : Nat) (jn : Jn) (S : World → Prop) (Q : Value → WP) (b : Nat) (sl : Sl) (xp : Option Addr) (p : Int) (b9 : Nat) (t10 : Sl) (t11 : ByteArray) (b16 : Nat) (t17 : Sl) (b23 : Nat) : arc_Engine_State_s33 (n + 1) [0, 1, 2, 3, 4, 5, 6, 7, 8, 9, 10, 11, 12, 14, 15, 16, 17, 18, 21, 22, 23, 24, 28, 29, 30, 31] jn S Q b sl xp p b9 t10 t11 b16 t17 b23 = (
  allW [
  (call1 .str Tryd.prog id_arc_text [.string str_T2, .slice t17.a t17.n t17.c] fun (x_2974 : ByteArray) =>
  keepS true S <|
  arc_Engine_State_s36 n [13, 0, 1, 2, 3, 4, 5, 6, 7, 8, 9, 10, 11, 12, 14, 15, 16, 17, 18, 21, 22, 23, 24, 28, 29, 30, 31] jn S Q b sl xp p b9 t10 t11 b16 t17 x_2974 b23),
  (newB [.int .i64 (3 : Int)] ty_int fun b_2975 =>
  keepS true S <|
  arc_Engine_State_s38 n [25, 0, 1, 2, 3, 4, 5, 6, 7, 8, 9, 10, 11, 12, 14, 15, 16, 17, 18, 21, 22, 23, 24, 28, 29, 30, 31] jn S Q b sl xp p b9 t10 t11 b16 t17 b23 b_2975)]) := by kernel_rfl
theorem arc_Engine_State_s34_raw (n : Nat) (jn : Jn) (S : World → Prop) (Q : Value → WP) (b : Nat) (sl : Sl) (xp : Option Addr) (p : Int) (b9 : Nat) (t10 : Sl) (t11 : ByteArray) (b16 : Nat) (t17 : Sl) (b30 : Nat) : arc_Engine_State_s34 (n + 1) [0, 1, 2, 3, 4, 5, 6, 7, 8, 9, 10, 11, 12, 14, 15, 16, 17, 21, 22, 23, 24, 25, 28, 29, 30, 31] jn S Q b sl xp p b9 t10 t11 b16 t17 b30 = (
  allW [
  (call1 .str Tryd.prog id_arc_text [.string str_T2, .slice t17.a t17.n t17.c] fun (x_2976 : ByteArray) =>
  keepS true S <|
  arc_Engine_State_s37 n [13, 0, 1, 2, 3, 4, 5, 6, 7, 8, 9, 10, 11, 12, 14, 15, 16, 17, 21, 22, 23, 24, 25, 28, 29, 30, 31] jn S Q b sl xp p b9 t10 t11 b16 t17 x_2976 b30),
  (newB [.int .i64 (2 : Int)] ty_int fun b_2977 =>
  keepS true S <|
  arc_Engine_State_s38 n [18, 0, 1, 2, 3, 4, 5, 6, 7, 8, 9, 10, 11, 12, 14, 15, 16, 17, 21, 22, 23, 24, 25, 28, 29, 30, 31] jn S Q b sl xp p b9 t10 t11 b16 t17 b_2977 b30)]) := by kernel_rfl
theorem arc_Engine_State_s35_raw (n : Nat) (jn : Jn) (S : World → Prop) (Q : Value → WP) (b : Nat) (sl : Sl) (xp : Option Addr) (p : Int) (b9 : Nat) (t10 : Sl) (t11 : ByteArray) (b16 : Nat) (b23 : Nat) (b30 : Nat) : arc_Engine_State_s35 (n + 1) [0, 1, 2, 3, 4, 5, 6, 7, 8, 9, 10, 11, 14, 15, 16, 17, 18, 21, 22, 23, 24, 25, 28, 29, 30, 31] jn S Q b sl xp p b9 t10 t11 b16 b23 b30 = (
  call1 .slc Tryd.prog id_arc_rows_keys [.agg #[.slice sl.a sl.n sl.c, .pointer xp], .slice (some ⟨b16, 0, none⟩) 1 1] fun (x_2978 : Sl) =>
  keepS true S <|
  arc_Engine_State_s38 n [12, 0, 1, 2, 3, 4, 5, 6, 7, 8, 9, 10, 11, 14, 15, 16, 17, 18, 21, 22, 23, 24, 25, 28, 29, 30, 31] jn S Q b sl xp p b9 t10 t11 b16 x_2978 b23 b30) := by kernel_rfl
theorem arc_Engine_State_s36_raw (n : Nat) (jn : Jn) (S : World → Prop) (Q : Value → WP) (b : Nat) (sl : Sl) (xp : Option Addr) (p : Int) (b9 : Nat) (t10 : Sl) (t11 : ByteArray) (b16 : Nat) (t17 : Sl) (t18 : ByteArray) (b23 : Nat) : arc_Engine_State_s36 (n + 1) [0, 1, 2, 3, 4, 5, 6, 7, 8, 9, 10, 11, 12, 13, 14, 15, 16, 17, 18, 21, 22, 23, 24, 28, 29, 30, 31] jn S Q b sl xp p b9 t10 t11 b16 t17 t18 b23 = (
  allW [
  (call1 .slc Tryd.prog id_arc_rows_keys [.agg #[.slice sl.a sl.n sl.c, .pointer xp], .slice (some ⟨b23, 0, none⟩) 1 1] fun (x_2979 : Sl) =>
  keepS true S <|
  arc_Engine_State_s39 n [19, 0, 1, 2, 3, 4, 5, 6, 7, 8, 9, 10, 11, 12, 13, 14, 15, 16, 17, 18, 21, 22, 23, 24, 28, 29, 30, 31] jn S Q b sl xp p b9 t10 t11 b16 t17 t18 b23 x_2979),
  (newB [.int .i64 (3 : Int)] ty_int fun b_2980 =>
  keepS true S <|
  arc_Engine_State_s40 n [25, 0, 1, 2, 3, 4, 5, 6, 7, 8, 9, 10, 11, 12, 13, 14, 15, 16, 17, 18, 21, 22, 23, 24, 28, 29, 30, 31] jn S Q b sl xp p b9 t10 t11 b16 t17 t18 b23 b_2980)]) := by kernel_rfl
theorem arc_Engine_State_s37_raw (n : Nat) (jn : Jn) (S : World → Prop) (Q : Value → WP) (b : Nat) (sl : Sl) (xp : Option Addr) (p : Int) (b9 : Nat) (t10 : Sl) (t11 : ByteArray) (b16 : Nat) (t17 : Sl) (t18 : ByteArray) (b30 : Nat) : arc_Engine_State_s37 (n + 1) [0, 1, 2, 3, 4, 5, 6, 7, 8, 9, 10, 11, 12, 13, 14, 15, 16, 17, 21, 22, 23, 24, 25, 28, 29, 30, 31] jn S Q b sl xp p b9 t10 t11 b16 t17 t18 b30 = (
  newB [.int .i64 (2 : Int)] ty_int fun b_2981 =>
  keepS true S <|
  arc_Engine_State_s40 n [18, 0, 1, 2, 3, 4, 5, 6, 7, 8, 9, 10, 11, 12, 13, 14, 15, 16, 17, 21, 22, 23, 24, 25, 28, 29, 30, 31] jn S Q b sl xp p b9 t10 t11 b16 t17 t18 b_2981 b30) := by kernel_rfl
theorem arc_Engine_State_s38_raw (n : Nat) (jn : Jn) (S : World → Prop) (Q : Value → WP) (b : Nat) (sl : Sl) (xp : Option Addr) (p : Int) (b9 : Nat) (t10 : Sl) (t11 : ByteArray) (b16 : Nat) (t17 : Sl) (b23 : Nat) (b30 : Nat) : arc_Engine_State_s38 (n + 1) [0, 1, 2, 3, 4, 5, 6, 7, 8, 9, 10, 11, 12, 14, 15, 16, 17, 18, 21, 22, 23, 24, 25, 28, 29, 30, 31] jn S Q b sl xp p b9 t10 t11 b16 t17 b23 b30 = (
  call1 .str Tryd.prog id_arc_text [.string str_T2, .slice t17.a t17.n t17.c] fun (x_2982 : ByteArray) =>
  keepS true S <|
  arc_Engine_State_s40 n [13, 0, 1, 2, 3, 4, 5, 6, 7, 8, 9, 10, 11, 12, 14, 15, 16, 17, 18, 21, 22, 23, 24, 25, 28, 29, 30, 31] jn S Q b sl xp p b9 t10 t11 b16 t17 x_2982 b23 b30) := by kernel_rfl
theorem arc_Engine_State_s39_raw (n : Nat) (jn : Jn) (S : World → Prop) (Q : Value → WP) (b : Nat) (sl : Sl) (xp : Option Addr) (p : Int) (b9 : Nat) (t10 : Sl) (t11 : ByteArray) (b16 : Nat) (t17 : Sl) (t18 : ByteArray) (b23 : Nat) (t24 : Sl) : arc_Engine_State_s39 (n + 1) [0, 1, 2, 3, 4, 5, 6, 7, 8, 9, 10, 11, 12, 13, 14, 15, 16, 17, 18, 19, 21, 22, 23, 24, 28, 29, 30, 31] jn S Q b sl xp p b9 t10 t11 b16 t17 t18 b23 t24 = (
  allW [
  (call1 .str Tryd.prog id_arc_text [.string str_B1, .slice t24.a t24.n t24.c] fun (x_2983 : ByteArray) =>
  keepS true S <|
  arc_Engine_State_s41 n [20, 0, 1, 2, 3, 4, 5, 6, 7, 8, 9, 10, 11, 12, 13, 14, 15, 16, 17, 18, 19, 21, 22, 23, 24, 28, 29, 30, 31] jn S Q b sl xp p b9 t10 t11 b16 t17 t18 b23 t24 x_2983),
  (newB [.int .i64 (3 : Int)] ty_int fun b_2984 =>
  keepS true S <|
  arc_Engine_State_s42 n [25, 0, 1, 2, 3, 4, 5, 6, 7, 8, 9, 10, 11, 12, 13, 14, 15, 16, 17, 18, 19, 21, 22, 23, 24, 28, 29, 30, 31] jn S Q b sl xp p b9 t10 t11 b16 t17 t18 b23 t24 b_2984)]) := by kernel_rfl
theorem arc_Engine_State_s40_raw (n : Nat) (jn : Jn) (S : World → Prop) (Q : Value → WP) (b : Nat) (sl : Sl) (xp : Option Addr) (p : Int) (b9 : Nat) (t10 : Sl) (t11 : ByteArray) (b16 : Nat) (t17 : Sl) (t18 : ByteArray) (b23 : Nat) (b30 : Nat) : arc_Engine_State_s40 (n + 1) [0, 1, 2, 3, 4, 5, 6, 7, 8, 9, 10, 11, 12, 13, 14, 15, 16, 17, 18, 21, 22, 23, 24, 25, 28, 29, 30, 31] jn S Q b sl xp p b9 t10 t11 b16 t17 t18 b23 b30 = (
  call1 .slc Tryd.prog id_arc_rows_keys [.agg #[.slice sl.a sl.n sl.c, .pointer xp], .slice (some ⟨b23, 0, none⟩) 1 1] fun (x_2985 : Sl) =>
  keepS true S <|
  arc_Engine_State_s42 n [19, 0, 1, 2, 3, 4, 5, 6, 7, 8, 9, 10, 11, 12, 13, 14, 15, 16, 17, 18, 21, 22, 23, 24, 25, 28, 29, 30, 31] jn S Q b sl xp p b9 t10 t11 b16 t17 t18 b23 x_2985 b30) := by kernel_rfl
theorem arc_Engine_State_s41_raw (n : Nat) (jn : Jn) (S : World → Prop) (Q : Value → WP) (b : Nat) (sl : Sl) (xp : Option Addr) (p : Int) (b9 : Nat) (t10 : Sl) (t11 : ByteArray) (b16 : Nat) (t17 : Sl) (t18 : ByteArray) (b23 : Nat) (t24 : Sl) (t25 : ByteArray) : arc_Engine_State_s41 (n + 1) [0, 1, 2, 3, 4, 5, 6, 7, 8, 9, 10, 11, 12, 13, 14, 15, 16, 17, 18, 19, 20, 21, 22, 23, 24, 28, 29, 30, 31] jn S Q b sl xp p b9 t10 t11 b16 t17 t18 b23 t24 t25 = (
  newB [.int .i64 (3 : Int)] ty_int fun b_2986 =>
  keepS true S <|
  arc_Engine_State_s43 n [25, 0, 1, 2, 3, 4, 5, 6, 7, 8, 9, 10, 11, 12, 13, 14, 15, 16, 17, 18, 19, 20, 21, 22, 23, 24, 28, 29, 30, 31] jn S Q b sl xp p b9 t10 t11 b16 t17 t18 b23 t24 t25 b_2986) := by kernel_rfl
theorem arc_Engine_State_s42_raw (n : Nat) (jn : Jn) (S : World → Prop) (Q : Value → WP) (b : Nat) (sl : Sl) (xp : Option Addr) (p : Int) (b9 : Nat) (t10 : Sl) (t11 : ByteArray) (b16 : Nat) (t17 : Sl) (t18 : ByteArray) (b23 : Nat) (t24 : Sl) (b30 : Nat) : arc_Engine_State_s42 (n + 1) [0, 1, 2, 3, 4, 5, 6, 7, 8, 9, 10, 11, 12, 13, 14, 15, 16, 17, 18, 19, 21, 22, 23, 24, 25, 28, 29, 30, 31] jn S Q b sl xp p b9 t10 t11 b16 t17 t18 b23 t24 b30 = (
  call1 .str Tryd.prog id_arc_text [.string str_B1, .slice t24.a t24.n t24.c] fun (x_2987 : ByteArray) =>
  keepS true S <|
  arc_Engine_State_s43 n [20, 0, 1, 2, 3, 4, 5, 6, 7, 8, 9, 10, 11, 12, 13, 14, 15, 16, 17, 18, 19, 21, 22, 23, 24, 25, 28, 29, 30, 31] jn S Q b sl xp p b9 t10 t11 b16 t17 t18 b23 t24 x_2987 b30) := by kernel_rfl
theorem arc_Engine_State_s43_raw (n : Nat) (jn : Jn) (S : World → Prop) (Q : Value → WP) (b : Nat) (sl : Sl) (xp : Option Addr) (p : Int) (b9 : Nat) (t10 : Sl) (t11 : ByteArray) (b16 : Nat) (t17 : Sl) (t18 : ByteArray) (b23 : Nat) (t24 : Sl) (t25 : ByteArray) (b30 : Nat) : arc_Engine_State_s43 (n + 1) [0, 1, 2, 3, 4, 5, 6, 7, 8, 9, 10, 11, 12, 13, 14, 15, 16, 17, 18, 19, 20, 21, 22, 23, 24, 25, 28, 29, 30, 31] jn S Q b sl xp p b9 t10 t11 b16 t17 t18 b23 t24 t25 b30 = (
  call1 .slc Tryd.prog id_arc_rows_keys [.agg #[.slice sl.a sl.n sl.c, .pointer xp], .slice (some ⟨b30, 0, none⟩) 1 1] fun (x_2988 : Sl) =>
  keepS true S <|
  arc_Engine_State_s44 n [26, 0, 1, 2, 3, 4, 5, 6, 7, 8, 9, 10, 11, 12, 13, 14, 15, 16, 17, 18, 19, 20, 21, 22, 23, 24, 25, 28, 29, 30, 31] jn S Q b sl xp p b9 t10 t11 b16 t17 t18 b23 t24 t25 b30 x_2988) := by kernel_rfl
theorem arc_Engine_State_s44_raw (n : Nat) (jn : Jn) (S : World → Prop) (Q : Value → WP) (b : Nat) (sl : Sl) (xp : Option Addr) (p : Int) (b9 : Nat) (t10 : Sl) (t11 : ByteArray) (b16 : Nat) (t17 : Sl) (t18 : ByteArray) (b23 : Nat) (t24 : Sl) (t25 : ByteArray) (b30 : Nat) (t31 : Sl) : arc_Engine_State_s44 (n + 1) [0, 1, 2, 3, 4, 5, 6, 7, 8, 9, 10, 11, 12, 13, 14, 15, 16, 17, 18, 19, 20, 21, 22, 23, 24, 25, 26, 28, 29, 30, 31] jn S Q b sl xp p b9 t10 t11 b16 t17 t18 b23 t24 t25 b30 t31 = (
  call1 .str Tryd.prog id_arc_text [.string str_B2, .slice t31.a t31.n t31.c] fun (x_2989 : ByteArray) =>
  keepS true S <|
  arc_Engine_State_s45 n [27, 0, 1, 2, 3, 4, 5, 6, 7, 8, 9, 10, 11, 12, 13, 14, 15, 16, 17, 18, 19, 20, 21, 22, 23, 24, 25, 26, 28, 29, 30, 31] jn S Q b sl xp p b9 t10 t11 b16 t17 t18 b23 t24 t25 b30 t31 x_2989) := by kernel_rfl
theorem arc_Engine_State_s45_raw (n : Nat) (jn : Jn) (S : World → Prop) (Q : Value → WP) (b : Nat) (sl : Sl) (xp : Option Addr) (p : Int) (b9 : Nat) (t10 : Sl) (t11 : ByteArray) (b16 : Nat) (t17 : Sl) (t18 : ByteArray) (b23 : Nat) (t24 : Sl) (t25 : ByteArray) (b30 : Nat) (t31 : Sl) (t32 : ByteArray) : arc_Engine_State_s45 (n + 1) [0, 1, 2, 3, 4, 5, 6, 7, 8, 9, 10, 11, 12, 13, 14, 15, 16, 17, 18, 19, 20, 21, 22, 23, 24, 25, 26, 27, 28, 29, 30, 31] jn S Q b sl xp p b9 t10 t11 b16 t17 t18 b23 t24 t25 b30 t31 t32 = (
  call1 .str Tryd.prog id_strconv_Itoa [.int .i64 p] fun (x_2990 : ByteArray) =>
  arc_Engine_State_s46 n [32, 0, 1, 2, 3, 4, 5, 6, 7, 8, 9, 10, 11, 12, 13, 14, 15, 16, 17, 18, 19, 20, 21, 22, 23, 24, 25, 26, 27, 28, 29, 30, 31] jn S Q b sl xp p b9 t10 t11 b16 t17 t18 b23 t24 t25 b30 t31 t32 x_2990) := by kernel_rfl
theorem arc_Engine_State_s46_raw (n : Nat) (jn : Jn) (S : World → Prop) (Q : Value → WP) (b : Nat) (sl : Sl) (xp : Option Addr) (p : Int) (b9 : Nat) (t10 : Sl) (t11 : ByteArray) (b16 : Nat) (t17 : Sl) (t18 : ByteArray) (b23 : Nat) (t24 : Sl) (t25 : ByteArray) (b30 : Nat) (t31 : Sl) (t32 : ByteArray) (t37 : ByteArray) : arc_Engine_State_s46 (n + 2) [0, 1, 2, 3, 4, 5, 6, 7, 8, 9, 10, 11, 12, 13, 14, 15, 16, 17, 18, 19, 20, 21, 22, 23, 24, 25, 26, 27, 28, 29, 30, 31, 32] jn S Q b sl xp p b9 t10 t11 b16 t17 t18 b23 t24 t25 b30 t31 t32 t37 = (
  when (str_p__.size + t37.size ≤ 9223372036854775807) <|
  newB [.string t11, .string t18, .string t25, .string t32, .string (str_p__ ++ t37)] ty_string fun b_2991 =>
  arc_Engine_State_s47 n [34, 33, 0, 1, 2, 3, 4, 5, 6, 7, 8, 9, 10, 11, 12, 13, 14, 15, 16, 17, 18, 19, 20, 21, 22, 23, 24, 25, 26, 27, 28, 29, 30, 31, 32] jn S Q b sl xp p b9 t10 t11 b16 t17 t18 b23 t24 t25 b30 t31 t32 t37 (str_p__ ++ t37) b_2991) := by kernel_rfl
theorem arc_Engine_State_s47_raw (n : Nat) (jn : Jn) (S : World → Prop) (Q : Value → WP) (b : Nat) (sl : Sl) (xp : Option Addr) (p : Int) (b9 : Nat) (t10 : Sl) (t11 : ByteArray) (b16 : Nat) (t17 : Sl) (t18 : ByteArray) (b23 : Nat) (t24 : Sl) (t25 : ByteArray) (b30 : Nat) (t31 : Sl) (t32 : ByteArray) (t37 : ByteArray) (t38 : ByteArray) (b39 : Nat) : arc_Engine_State_s47 (n + 1) [0, 1, 2, 3, 4, 5, 6, 7, 8, 9, 10, 11, 12, 13, 14, 15, 16, 17, 18, 19, 20, 21, 22, 23, 24, 25, 26, 27, 28, 29, 30, 31, 32, 33, 34] jn S Q b sl xp p b9 t10 t11 b16 t17 t18 b23 t24 t25 b30 t31 t32 t37 t38 b39 = (
  call1 .str Tryd.prog id_strings_Join [.slice (some ⟨b39, 0, none⟩) 5 5, .string str__] fun (x_2992 : ByteArray) =>
  arc_Engine_State_s48 n [35, 0, 1, 2, 3, 4, 5, 6, 7, 8, 9, 10, 11, 12, 13, 14, 15, 16, 17, 18, 19, 20, 21, 22, 23, 24, 25, 26, 27, 28, 29, 30, 31, 32, 33, 34] jn S Q b sl xp p b9 t10 t11 b16 t17 t18 b23 t24 t25 b30 t31 t32 t37 t38 b39 x_2992) := by kernel_rfl
theorem arc_Engine_State_s48_raw (jn : Jn) (S : World → Prop) (Q : Value → WP) (b : Nat) (sl : Sl) (xp : Option Addr) (p : Int) (b9 : Nat) (t10 : Sl) (t11 : ByteArray) (b16 : Nat) (t17 : Sl) (t18 : ByteArray) (b23 : Nat) (t24 : Sl) (t25 : ByteArray) (b30 : Nat) (t31 : Sl) (t32 : ByteArray) (t37 : ByteArray) (t38 : ByteArray) (b39 : Nat) (t40 : ByteArray) : arc_Engine_State_s48 1 [0, 1, 2, 3, 4, 5, 6, 7, 8, 9, 10, 11, 12, 13, 14, 15, 16, 17, 18, 19, 20, 21, 22, 23, 24, 25, 26, 27, 28, 29, 30, 31, 32, 33, 34, 35] jn S Q b sl xp p b9 t10 t11 b16 t17 t18 b23 t24 t25 b30 t31 t32 t37 t38 b39 t40 = (
  Q (.string t40)) := by kernel_rfl

end Go.Proofs.YtchlicgjdlkidaaDoor
