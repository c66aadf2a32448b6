import Derived.Test.YtmefopmnjncdbaaGreatChecked
import Derived.KernelRfl
import Derived.Test.YtmefopmnjncdbaaGreatMn8
set_option linter.unusedVariables false
set_option linter.unusedSimpArgs false
set_option linter.unnecessarySimpa false
set_option linter.unusedSectionVars false
set_option maxRecDepth 100000
namespace Go.Proofs.YtmefopmnjncdbaaGreat
open Go.Hb
def f121_kp:KP:=⟨[(10,[0,28]),(17,[0,4]),(20,[4]),(22,[0])],[(3,[0,1,2,3,4,5,6,7,9,10,11,12,13,14,15,17,18,19]),(7,[0,1,2,3,4,5,6,7,9,10,11])]⟩
noncomputable def f121_b (l:List Nat):Code:=cAtN l (bodyOf Tryz.f121)
def f121_r (Q:Value -> WP):Env -> WP:=retK Tryz.prog Tryz.f121 Q
def f121_e4 (jn:Jn) (Q:Value -> WP):Env -> WP:=seqK Tryz.prog f121_kp jn (f121_b [1,1,1]) (f121_r Q) noX (f121_r Q)
def f121_e9 (jn:Jn) (Q:Value -> WP):Env -> WP:=seqK Tryz.prog f121_kp jn (f121_b [1,1,0,1,0,1,1,1,1]) (f121_e4 jn Q) noX (f121_r Q)
def f121_j3_c (jn:Jn) (Q:Value -> WP):Env -> WP:=codeI Tryz.prog f121_kp jn (f121_b [1,1,0,1,0,1,1,1,1]) (f121_e4 jn Q) noX (f121_r Q)
def f121_j3 (jn:Jn) (Q:Value -> WP) (k4:ByteArray):WP:=jn 20 (f121_j3_c jn Q ) (us 4 ((.string k4)::us 86 []))
def f121_l2 (jn:Jn) (Q:Value -> WP) (m2:Nat) (e0:Option Addr) (k4:ByteArray):WP:=lop Tryz.prog f121_kp jn (f121_b [1,1,0,1,0,1,1,1,0,0,0]) (blkX 0 (f121_e9 jn Q) noX) (f121_r Q) m2 ((.pointer e0)::us 3 ((.string k4)::us 86 []))
def f121_j4_c (jn:Jn) (Q:Value -> WP):Env -> WP:=codeI Tryz.prog f121_kp jn (f121_b [1,1,1]) (f121_r Q) noX (f121_r Q)
def f121_j4 (jn:Jn) (Q:Value -> WP) (e0:Option Addr):WP:=jn 22 (f121_j4_c jn Q ) ((.pointer e0)::us 90 [])
def f121_j1_c (jn:Jn) (Q:Value -> WP):Env -> WP:=codeI Tryz.prog f121_kp jn (f121_b [1,1,0,1]) (f121_e4 jn Q) noX (f121_r Q)
def f121_j1 (jn:Jn) (Q:Value -> WP) (e0:Option Addr) (t28:Bool):WP:=jn 10 (f121_j1_c jn Q ) ((.pointer e0)::us 27 ((.bool t28)::us 62 []))
theorem f121_j3_raw {jn:Jn} {Q:Value -> WP} {k4:ByteArray}:f121_j3_c jn Q  (us 4 ((.string k4)::us 86 [])) = (
 Q (.tuple #[.string k4,.bool true])):=by kernel_rfl
theorem f121_l2_raw {jn:Jn} {Q:Value -> WP} {m2:Nat} {e0:Option Addr} {k4:ByteArray}:f121_l2 jn Q  (m2 + 1) e0 k4 = (
 drawW fun S=>
 nilck e0 fun b_27 o_28=>
 ldS S .slc b_27 (o_28 + 1) fun (x_29:Sl)=>
 nilck e0 fun b_30 o_31=>
 ld (.int .i64) b_30 (o_31 + 3) fun (x_32:Int)=>
 keepS true S <|
 when ((2:Int) ≠ 0) <|
 ite2 (decide ((x_29.n:Int) > (if (IntKind.wrap .i64 (Int.tdiv x_32 2)) > 1 then (IntKind.wrap .i64 (Int.tdiv x_32 2)) else 1))) (
 nilck e0 fun b_33 o_34=>
 ld .slc b_33 (o_34 + 1) fun (x_35:Sl)=>
 when ((0:Int) <= (1:Int) /\ (1:Int) <= (x_35.n:Int)) <|
 nilck e0 fun b_36 o_37=>
 st b_36 (o_37 + 1) (.slice (subA x_35.a (((1:Int)).toNat) x_35.c 1) (x_35.n - ((1:Int)).toNat) (x_35.c - ((1:Int)).toNat)) <|
 f121_l2 jn Q  m2 e0 k4) (
 f121_j3 jn Q  k4)):=by kernel_rfl
theorem f121_j4_raw {jn:Jn} {Q:Value -> WP} {e0:Option Addr}:f121_j4_c jn Q  ((.pointer e0)::us 90 []) = (
 nilck e0 fun b_38 o_39=>
 ld .slc b_38 (o_39 + 2) fun (x_40:Sl)=>
 idx x_40.a x_40.n 0 fun b_41 o_42=>
 ld .str b_41 (o_42 + ((0:Int)).toNat * 1) fun (x_43:ByteArray)=>
 nilck e0 fun b_44 o_45=>
 ld .slc b_44 (o_45 + 2) fun (x_46:Sl)=>
 call1 .slc Tryz.prog 169 [.slice x_46.a x_46.n x_46.c,.string x_43] fun (x_47:Sl)=>
 nilck e0 fun b_48 o_49=>
 st b_48 (o_49 + 2) (.slice x_47.a x_47.n x_47.c) <|
 Q (.tuple #[.string x_43,.bool true])):=by kernel_rfl
theorem f121_j1_raw {jn:Jn} {Q:Value -> WP} {e0:Option Addr} {t28:Bool}:f121_j1_c jn Q  ((.pointer e0)::us 27 ((.bool t28)::us 62 [])) = (
 ite2 t28 (
 nilck e0 fun b_8 o_9=>
 ld .slc b_8 o_9 fun (x_10:Sl)=>
 idx x_10.a x_10.n 0 fun b_11 o_12=>
 ld .str b_11 (o_12 + ((0:Int)).toNat * 1) fun (x_13:ByteArray)=>
 nilck e0 fun b_14 o_15=>
 ld .slc b_14 o_15 fun (x_16:Sl)=>
 call1 .slc Tryz.prog 169 [.slice x_16.a x_16.n x_16.c,.string x_13] fun (x_17:Sl)=>
 nilck e0 fun b_18 o_19=>
 st b_18 o_19 (.slice x_17.a x_17.n x_17.c) <|
 nilck e0 fun b_20 o_21=>
 ld .slc b_20 (o_21 + 1) fun (x_22:Sl)=>
 newB [.string x_13] 9 fun b_23=>
 appendC 9 1 16 [.string str_empty] ⟨x_22.a,x_22.n,x_22.c⟩ 1 (fun w=>rdA w (some ⟨b_23,0,none⟩) (1 * 1)) fun s_24=>
 nilck e0 fun b_25 o_26=>
 st b_25 (o_26 + 1) (.slice s_24.a s_24.n s_24.c) <|
 exM fun m=>f121_l2 jn Q  m e0 x_13) (
 f121_j4 jn Q  e0)):=by kernel_rfl
theorem f121_raw {jn:Jn} {e0:Option Addr} {Q:Value -> WP}:funJ jn Tryz.prog f121_kp Tryz.f121 [.pointer e0] Q = (
 call1 (.int .i64) Tryz.prog 168 [.pointer e0] fun (x_1:Int)=>
 ite2 (x_1 == 0) (
 Q (.tuple #[.string str_empty,.bool false])) (
 drawW fun S=>
 nilck e0 fun b_2 o_3=>
 ldS S .slc b_2 o_3 fun (x_4:Sl)=>
 nilck e0 fun b_5 o_6=>
 ld (.int .i64) b_5 (o_6 + 3) fun (x_7:Int)=>
 keepS true S <|
 when ((4:Int) ≠ 0) <|
 ite2 (decide ((x_4.n:Int) > (if (IntKind.wrap .i64 (Int.tdiv x_7 4)) > 1 then (IntKind.wrap .i64 (Int.tdiv x_7 4)) else 1))) (
 f121_j1 jn Q  e0 true) (
 nilck e0 fun b_50 o_51=>
 ld .slc b_50 (o_51 + 2) fun (x_52:Sl)=>
 f121_j1 jn Q  e0 ((x_52.n:Int) == 0)))):=by kernel_rfl
theorem f121_ok:FnOk Tryz.prog 121 Tryz.f121:=⟨mixed,Tryz.func121,rfl⟩
def f122_kp:KP:=⟨[(10,[0,4]),(14,[0,4])],[]⟩
noncomputable def f122_b (l:List Nat):Code:=cAtN l (bodyOf Tryz.f122)
def f122_r (Q:Value -> WP):Env -> WP:=retK Tryz.prog Tryz.f122 Q
def f122_j2_c (jn:Jn) (Q:Value -> WP):Env -> WP:=codeI Tryz.prog f122_kp jn (f122_b [1,1,1,1]) (f122_r Q) noX (f122_r Q)
def f122_j2 (jn:Jn) (Q:Value -> WP) (e0:Option Addr) (row4:Sl):WP:=jn 14 (f122_j2_c jn Q ) ((.pointer e0)::us 3 ((.slice row4.a row4.n row4.c)::us 29 []))
def f122_j1_c (jn:Jn) (Q:Value -> WP):Env -> WP:=codeI Tryz.prog f122_kp jn (f122_b [1,1,1]) (f122_r Q) noX (f122_r Q)
def f122_j1 (jn:Jn) (Q:Value -> WP) (e0:Option Addr) (row4:Sl):WP:=jn 10 (f122_j1_c jn Q ) ((.pointer e0)::us 3 ((.slice row4.a row4.n row4.c)::us 29 []))
theorem f122_j2_raw {jn:Jn} {Q:Value -> WP} {e0:Option Addr} {row4:Sl}:f122_j2_c jn Q  ((.pointer e0)::us 3 ((.slice row4.a row4.n row4.c)::us 29 [])) = (
 ite2 ((row4.n:Int) == 0) (
 Q (.tuple #[.string str_empty,.bool false])) (
 idx row4.a row4.n 0 fun b_10 o_11=>
 ld .str b_10 (o_11 + ((0:Int)).toNat * 1) fun (x_12:ByteArray)=>
 call1 .bool Tryz.prog 149 [.pointer e0,.string x_12] fun (x_13:Bool)=>
 Q (.tuple #[.string x_12,.bool true]))):=by kernel_rfl
theorem f122_j1_raw {jn:Jn} {Q:Value -> WP} {e0:Option Addr} {row4:Sl}:f122_j1_c jn Q  ((.pointer e0)::us 3 ((.slice row4.a row4.n row4.c)::us 29 [])) = (
 ite2 ((row4.n:Int) == 0) (
 nilck e0 fun b_7 o_8=>
 ld .slc b_7 o_8 fun (x_9:Sl)=>
 f122_j2 jn Q  e0 x_9) (
 f122_j2 jn Q  e0 row4)):=by kernel_rfl
theorem f122_raw {jn:Jn} {e0:Option Addr} {Q:Value -> WP}:funJ jn Tryz.prog f122_kp Tryz.f122 [.pointer e0] Q = (
 nilck e0 fun b_1 o_2=>
 ld .slc b_1 (o_2 + 1) fun (x_3:Sl)=>
 ite2 ((x_3.n:Int) == 0) (
 nilck e0 fun b_4 o_5=>
 ld .slc b_4 (o_5 + 2) fun (x_6:Sl)=>
 f122_j1 jn Q  e0 x_6) (
 f122_j1 jn Q  e0 x_3)):=by kernel_rfl
theorem f122_ok:FnOk Tryz.prog 122 Tryz.f122:=⟨mixed,Tryz.func122,rfl⟩
def f123_kp:KP:=⟨[(10,[0,23]),(11,[0]),(24,[0])],[(3,[0,1,2,3,4,5,7,8,9,10,11,13,14,15]),(10,[0,1,2,3,4,5,7,10,11])]⟩
noncomputable def f123_b (l:List Nat):Code:=cAtN l (bodyOf Tryz.f123)
def f123_r (Q:Value -> WP):Env -> WP:=retK Tryz.prog Tryz.f123 Q
def f123_e4 (jn:Jn) (Q:Value -> WP):Env -> WP:=seqK Tryz.prog f123_kp jn (f123_b [1,1,1]) (f123_r Q) noX (f123_r Q)
def f123_j3_c (jn:Jn) (Q:Value -> WP):Env -> WP:=codeI Tryz.prog f123_kp jn (f123_b [1,1,1]) (f123_r Q) noX (f123_r Q)
def f123_j3 (jn:Jn) (Q:Value -> WP) (e0:Option Addr):WP:=jn 24 (f123_j3_c jn Q ) ((.pointer e0)::us 66 [])
def f123_l2 (jn:Jn) (Q:Value -> WP) (m2:Nat) (e0:Option Addr):WP:=lop Tryz.prog f123_kp jn (f123_b [1,1,0,1,0,0,0]) (blkX 0 (f123_e4 jn Q) noX) (f123_r Q) m2 ((.pointer e0)::us 66 [])
def f123_j1_c (jn:Jn) (Q:Value -> WP):Env -> WP:=codeI Tryz.prog f123_kp jn (f123_b [1,1,0,1]) (f123_e4 jn Q) noX (f123_r Q)
def f123_j1 (jn:Jn) (Q:Value -> WP) (e0:Option Addr) (t23:Bool):WP:=jn 10 (f123_j1_c jn Q ) ((.pointer e0)::us 22 ((.bool t23)::us 43 []))
theorem f123_j3_raw {jn:Jn} {Q:Value -> WP} {e0:Option Addr}:f123_j3_c jn Q  ((.pointer e0)::us 66 []) = (
 call1 .str Tryz.prog 174 [.pointer e0] fun (x_34:ByteArray)=>
 Q (.tuple #[.string x_34,.bool true])):=by kernel_rfl
theorem f123_l2_raw {jn:Jn} {Q:Value -> WP} {m2:Nat} {e0:Option Addr}:f123_l2 jn Q  (m2 + 1) e0 = (
 nilck e0 fun b_6 o_7=>
 ld .slc b_6 o_7 fun (x_8:Sl)=>
 ite2 (decide ((x_8.n:Int) > 0)) (
 nilck e0 fun b_9 o_10=>
 ld .slc b_9 o_10 fun (x_11:Sl)=>
 idx x_11.a x_11.n 0 fun b_12 o_13=>
 ld .str b_12 (o_13 + ((0:Int)).toNat * 2) fun (x_14:ByteArray)=>
 ld (.int .i64) b_12 ((o_13 + ((0:Int)).toNat * 2) + 1) fun (x_15:Int)=>
 newB [.string str_empty,.int .i64 0] 230 fun b_16=>
 st b_16 0 (.string x_14) <|
 st b_16 1 (.int .i64 x_15) <|
 nilck e0 fun b_17 o_18=>
 ld .slc b_17 o_18 fun (x_19:Sl)=>
 call1 .slc Tryz.prog 172 [.slice x_19.a x_19.n x_19.c,.int .i64 0] fun (x_20:Sl)=>
 nilck e0 fun b_21 o_22=>
 st b_21 o_22 (.slice x_20.a x_20.n x_20.c) <|
 ld (.int .i64) b_16 1 fun (x_23:Int)=>
 ite2 (decide (x_23 <= 1)) (
 ld .str b_16 0 fun (x_24:ByteArray)=>
 call0 Tryz.prog 173 [.pointer e0,.string x_24] <|
 ld .str b_16 0 fun (x_25:ByteArray)=>
 Q (.tuple #[.string x_25,.bool true])) (
 drawW fun S=>
 nilck e0 fun b_26 o_27=>
 ldS S .slc b_26 (o_27 + 1) fun (x_28:Sl)=>
 ld .str b_16 0 fun (x_29:ByteArray)=>
 keepS true S <|
 newB [.string x_29,.int .i64 0] 230 fun b_30=>
 keepS true S <|
 appendC 230 2 24 [.string str_empty,.int .i64 0] ⟨x_28.a,x_28.n,x_28.c⟩ 1 (fun w=>rdA w (some ⟨b_30,0,none⟩) (1 * 2)) fun s_31=>
 nilck e0 fun b_32 o_33=>
 st b_32 (o_33 + 1) (.slice s_31.a s_31.n s_31.c) <|
 f123_l2 jn Q  m2 e0)) (
 f123_j3 jn Q  e0)):=by kernel_rfl
theorem f123_j1_raw {jn:Jn} {Q:Value -> WP} {e0:Option Addr} {t23:Bool}:f123_j1_c jn Q  ((.pointer e0)::us 22 ((.bool t23)::us 43 [])) = (
 ite2 t23 (
 exM fun m=>f123_l2 jn Q  m e0) (
 f123_j3 jn Q  e0)):=by kernel_rfl
theorem f123_raw {jn:Jn} {e0:Option Addr} {Q:Value -> WP}:funJ jn Tryz.prog f123_kp Tryz.f123 [.pointer e0] Q = (
 call1 (.int .i64) Tryz.prog 170 [.pointer e0] fun (x_1:Int)=>
 ite2 (x_1 == 0) (
 Q (.tuple #[.string str_empty,.bool false])) (
 drawW fun S=>
 nilck e0 fun b_2 o_3=>
 ldS S .slc b_2 o_3 fun (x_4:Sl)=>
 call1 (.int .i64) Tryz.prog 171 [.pointer e0] fun (x_5:Int)=>
 keepS true S <|
 ite2 (decide ((x_4.n:Int) > x_5)) (
 f123_j1 jn Q  e0 true) (
 nilck e0 fun b_35 o_36=>
 ld .slc b_35 (o_36 + 1) fun (x_37:Sl)=>
 f123_j1 jn Q  e0 ((x_37.n:Int) == 0)))):=by kernel_rfl
theorem f123_ok:FnOk Tryz.prog 123 Tryz.f123:=⟨mixed,Tryz.func123,rfl⟩
def f124_kp:KP:=⟨[],[(2,[0,1,2,3,4,5,6,8,9,10,11,12,14,17,18,20,21])]⟩
theorem f124_raw {jn:Jn} {e0:Option Addr} {key1:ByteArray} {Q:Value -> WP}:funJ jn Tryz.prog f124_kp Tryz.f124 [.pointer e0,.string key1] Q = (
 call1 .bool Tryz.prog 151 [.pointer e0,.string key1] fun (x_1:Bool)=>
 ite2 x_1 (
 drawW fun S=>
 nilck e0 fun b_2 o_3=>
 ldS S .slc b_2 o_3 fun (x_4:Sl)=>
 nilck e0 fun b_5 o_6=>
 ldS S .slc b_5 (o_6 + 1) fun (x_7:Sl)=>
 allW [
 (call1 .slc Tryz.prog 175 [.slice x_4.a x_4.n x_4.c,.string key1] fun (x_8:Sl)=>
 keepS true S <|
 allW [
 (call1 .slc Tryz.prog 175 [.slice x_7.a x_7.n x_7.c,.string key1] fun (x_9:Sl)=>
 newB [.string key1] 9 fun b_10=>
 keepS true S <|
 appendC 9 1 16 [.string str_empty] ⟨x_9.a,x_9.n,x_9.c⟩ 1 (fun w=>rdA w (some ⟨b_10,0,none⟩) (1 * 1)) fun s_11=>
 nilck e0 fun b_12 o_13=>
 st b_12 o_13 (.slice x_8.a x_8.n x_8.c) <|
 nilck e0 fun b_14 o_15=>
 st b_14 (o_15 + 1) (.slice s_11.a s_11.n s_11.c) <|
 Q (.tuple #[.bool true,.slice none 0 0])),
 (newB [.string key1] 9 fun b_16=>
 keepS true S <|
 call1 .slc Tryz.prog 175 [.slice x_7.a x_7.n x_7.c,.string key1] fun (x_17:Sl)=>
 appendC 9 1 16 [.string str_empty] ⟨x_17.a,x_17.n,x_17.c⟩ 1 (fun w=>rdA w (some ⟨b_16,0,none⟩) (1 * 1)) fun s_18=>
 nilck e0 fun b_19 o_20=>
 st b_19 o_20 (.slice x_8.a x_8.n x_8.c) <|
 nilck e0 fun b_21 o_22=>
 st b_21 (o_22 + 1) (.slice s_18.a s_18.n s_18.c) <|
 Q (.tuple #[.bool true,.slice none 0 0]))]),
 (newB [.string key1] 9 fun b_23=>
 keepS true S <|
 call1 .slc Tryz.prog 175 [.slice x_4.a x_4.n x_4.c,.string key1] fun (x_24:Sl)=>
 keepS true S <|
 call1 .slc Tryz.prog 175 [.slice x_7.a x_7.n x_7.c,.string key1] fun (x_25:Sl)=>
 appendC 9 1 16 [.string str_empty] ⟨x_25.a,x_25.n,x_25.c⟩ 1 (fun w=>rdA w (some ⟨b_23,0,none⟩) (1 * 1)) fun s_26=>
 nilck e0 fun b_27 o_28=>
 st b_27 o_28 (.slice x_24.a x_24.n x_24.c) <|
 nilck e0 fun b_29 o_30=>
 st b_29 (o_30 + 1) (.slice s_26.a s_26.n s_26.c) <|
 Q (.tuple #[.bool true,.slice none 0 0]))]) (
 nilck e0 fun b_31 o_32=>
 ld .slc b_31 (o_32 + 2) fun (x_33:Sl)=>
 call1 (.int .i64) Tryz.prog 176 [.slice x_33.a x_33.n x_33.c,.string key1] fun (x_34:Int)=>
 ite2 (decide (x_34 >= 0)) (
 call1 .slc Tryz.prog 177 [.pointer e0,.string key1] fun (x_35:Sl)=>
 Q (.tuple #[.bool false,.slice x_35.a x_35.n x_35.c])) (
 nilck e0 fun b_36 o_37=>
 ld .slc b_36 (o_37 + 3) fun (x_38:Sl)=>
 call1 (.int .i64) Tryz.prog 176 [.slice x_38.a x_38.n x_38.c,.string key1] fun (x_39:Int)=>
 ite2 (decide (x_39 >= 0)) (
 call1 .slc Tryz.prog 177 [.pointer e0,.string key1] fun (x_40:Sl)=>
 Q (.tuple #[.bool false,.slice x_40.a x_40.n x_40.c])) (
 call1 .slc Tryz.prog 178 [.pointer e0,.string key1] fun (x_41:Sl)=>
 Q (.tuple #[.bool false,.slice x_41.a x_41.n x_41.c]))))):=by kernel_rfl
theorem f124_ok:FnOk Tryz.prog 124 Tryz.f124:=⟨mixed,Tryz.func124,rfl⟩
def f125_kp:KP:=⟨[(10,[0,1,6,7,23]),(18,[0,1,6,7]),(24,[0,1,6,7,54]),(42,[0,6,7])],[(3,[0,1,2,3,5,6,7,8,9,10])]⟩
noncomputable def f125_b (l:List Nat):Code:=cAtN l (bodyOf Tryz.f125)
def f125_r (Q:Value -> WP):Env -> WP:=retK Tryz.prog Tryz.f125 Q
def f125_e3 (jn:Jn) (Q:Value -> WP):Env -> WP:=seqK Tryz.prog f125_kp jn (f125_b [1,1,1,1]) (f125_r Q) noX (f125_r Q)
def f125_e6 (jn:Jn) (Q:Value -> WP):Env -> WP:=seqK Tryz.prog f125_kp jn (f125_b [1,1,1,1,1]) (f125_r Q) noX (f125_r Q)
def f125_j3_c (jn:Jn) (Q:Value -> WP):Env -> WP:=codeI Tryz.prog f125_kp jn (f125_b [1,1,1,1,1]) (f125_r Q) noX (f125_r Q)
def f125_j3 (jn:Jn) (Q:Value -> WP) (e0:Option Addr) (was6:Bool) (l7:Sl):WP:=jn 42 (f125_j3_c jn Q ) ((.pointer e0)::us 5 ((.bool was6)::(.slice l7.a l7.n l7.c)::us 100 []))
def f125_j4_c (jn:Jn) (Q:Value -> WP):Env -> WP:=codeI Tryz.prog f125_kp jn (f125_b [1,1,1,1,0,0,1,1,1]) (f125_e6 jn Q) (blkX 0 (f125_e6 jn Q) noX) (f125_r Q)
def f125_j4 (jn:Jn) (Q:Value -> WP) (e0:Option Addr) (key1:ByteArray) (was6:Bool) (l7:Sl) (t54:Bool):WP:=jn 24 (f125_j4_c jn Q ) ((.pointer e0)::(.string key1)::us 4 ((.bool was6)::(.slice l7.a l7.n l7.c)::us 46 ((.bool t54)::us 53 [])))
def f125_j2_c (jn:Jn) (Q:Value -> WP):Env -> WP:=codeI Tryz.prog f125_kp jn (f125_b [1,1,1,1]) (f125_r Q) noX (f125_r Q)
def f125_j2 (jn:Jn) (Q:Value -> WP) (e0:Option Addr) (key1:ByteArray) (was6:Bool) (l7:Sl):WP:=jn 18 (f125_j2_c jn Q ) ((.pointer e0)::(.string key1)::us 4 ((.bool was6)::(.slice l7.a l7.n l7.c)::us 100 []))
def f125_j1_c (jn:Jn) (Q:Value -> WP):Env -> WP:=codeI Tryz.prog f125_kp jn (f125_b [1,1,1,0,1]) (f125_e3 jn Q) noX (f125_r Q)
def f125_j1 (jn:Jn) (Q:Value -> WP) (e0:Option Addr) (key1:ByteArray) (was6:Bool) (l7:Sl) (t23:Bool):WP:=jn 10 (f125_j1_c jn Q ) ((.pointer e0)::(.string key1)::us 4 ((.bool was6)::(.slice l7.a l7.n l7.c)::us 15 ((.bool t23)::us 84 [])))
theorem f125_j3_raw {jn:Jn} {Q:Value -> WP} {e0:Option Addr} {was6:Bool} {l7:Sl}:f125_j3_c jn Q  ((.pointer e0)::us 5 ((.bool was6)::(.slice l7.a l7.n l7.c)::us 100 [])) = (
 ite2 (!was6) (
 call0 Tryz.prog 167 [.pointer e0] <|
 call0 Tryz.prog 184 [.pointer e0] <|
 Q (.tuple #[.bool was6,.slice l7.a l7.n l7.c])) (
 call0 Tryz.prog 184 [.pointer e0] <|
 Q (.tuple #[.bool was6,.slice l7.a l7.n l7.c]))):=by kernel_rfl
theorem f125_j4_raw {jn:Jn} {Q:Value -> WP} {e0:Option Addr} {key1:ByteArray} {was6:Bool} {l7:Sl} {t54:Bool}:f125_j4_c jn Q  ((.pointer e0)::(.string key1)::us 4 ((.bool was6)::(.slice l7.a l7.n l7.c)::us 46 ((.bool t54)::us 53 []))) = (
 ite2 t54 (
 call0 Tryz.prog 181 [.pointer e0,.string key1] <|
 f125_j3 jn Q  e0 was6 l7) (
 ite2 was6 (
 call0 Tryz.prog 165 [.pointer e0,.string key1] <|
 nilck e0 fun b_12 o_13=>
 ld .slc b_12 (o_13 + 1) fun (x_14:Sl)=>
 newB [.string key1] 9 fun b_15=>
 appendC 9 1 16 [.string str_empty] ⟨x_14.a,x_14.n,x_14.c⟩ 1 (fun w=>rdA w (some ⟨b_15,0,none⟩) (1 * 1)) fun s_16=>
 nilck e0 fun b_17 o_18=>
 st b_17 (o_18 + 1) (.slice s_16.a s_16.n s_16.c) <|
 call0 Tryz.prog 180 [.pointer e0,.string key1,.int .u8 99] <|
 f125_j3 jn Q  e0 was6 l7) (
 call1 (.int .i64) Tryz.prog 182 [.pointer e0,.int .u8 104] fun (x_19:Int)=>
 call1 (.int .i64) Tryz.prog 183 [.pointer e0] fun (x_20:Int)=>
 ite2 (decide (x_19 < x_20)) (
 call0 Tryz.prog 180 [.pointer e0,.string key1,.int .u8 104] <|
 f125_j3 jn Q  e0 was6 l7) (
 call1 (.int .u8) Tryz.prog 179 [.pointer e0,.string key1] fun (x_21:Int)=>
 ite2 (x_21 == 103) (
 call0 Tryz.prog 181 [.pointer e0,.string key1] <|
 f125_j3 jn Q  e0 was6 l7) (
 call0 Tryz.prog 180 [.pointer e0,.string key1,.int .u8 99] <|
 nilck e0 fun b_22 o_23=>
 ld .slc b_22 (o_23 + 1) fun (x_24:Sl)=>
 newB [.string key1] 9 fun b_25=>
 appendC 9 1 16 [.string str_empty] ⟨x_24.a,x_24.n,x_24.c⟩ 1 (fun w=>rdA w (some ⟨b_25,0,none⟩) (1 * 1)) fun s_26=>
 nilck e0 fun b_27 o_28=>
 st b_27 (o_28 + 1) (.slice s_26.a s_26.n s_26.c) <|
 f125_j3 jn Q  e0 was6 l7))))):=by kernel_rfl
theorem f125_j2_raw {jn:Jn} {Q:Value -> WP} {e0:Option Addr} {key1:ByteArray} {was6:Bool} {l7:Sl}:f125_j2_c jn Q  ((.pointer e0)::(.string key1)::us 4 ((.bool was6)::(.slice l7.a l7.n l7.c)::us 100 [])) = (
 call1 (.int .u8) Tryz.prog 179 [.pointer e0,.string key1] fun (x_10:Int)=>
 ite2 (x_10 == 104) (
 call0 Tryz.prog 180 [.pointer e0,.string key1,.int .u8 104] <|
 f125_j3 jn Q  e0 was6 l7) (
 ite2 was6 (
 call1 (.int .u8) Tryz.prog 179 [.pointer e0,.string key1] fun (x_11:Int)=>
 f125_j4 jn Q  e0 key1 was6 l7 (x_11 == 99)) (
 f125_j4 jn Q  e0 key1 was6 l7 false))):=by kernel_rfl
theorem f125_j1_raw {jn:Jn} {Q:Value -> WP} {e0:Option Addr} {key1:ByteArray} {was6:Bool} {l7:Sl} {t23:Bool}:f125_j1_c jn Q  ((.pointer e0)::(.string key1)::us 4 ((.bool was6)::(.slice l7.a l7.n l7.c)::us 15 ((.bool t23)::us 84 []))) = (
 ite2 t23 (
 call2 .str .bool Tryz.prog 120 [.pointer e0] fun (x_6:ByteArray) (x_7:Bool)=>
 newB [.string x_6] 9 fun b_8=>
 appendC 9 1 16 [.string str_empty] ⟨l7.a,l7.n,l7.c⟩ 1 (fun w=>rdA w (some ⟨b_8,0,none⟩) (1 * 1)) fun s_9=>
 f125_j2 jn Q  e0 key1 was6 s_9) (
 f125_j2 jn Q  e0 key1 was6 l7)):=by kernel_rfl
theorem f125_raw {jn:Jn} {e0:Option Addr} {key1:ByteArray} {Q:Value -> WP}:funJ jn Tryz.prog f125_kp Tryz.f125 [.pointer e0,.string key1] Q = (
 call1 .bool Tryz.prog 152 [.pointer e0,.string key1] fun (x_1:Bool)=>
 drawW fun S=>
 ite2 (!x_1) (
 nilck e0 fun b_2 o_3=>
 ldS S (.int .i64) b_2 (o_3 + 2) fun (x_4:Int)=>
 call1 (.int .i64) Tryz.prog 163 [.pointer e0] fun (x_5:Int)=>
 keepS true S <|
 f125_j1 jn Q  e0 key1 x_1 ⟨none,0,0⟩ (decide (x_5 >= x_4))) (
 keepS true S <|
 f125_j1 jn Q  e0 key1 x_1 ⟨none,0,0⟩ false)):=by kernel_rfl
theorem f125_ok:FnOk Tryz.prog 125 Tryz.f125:=⟨mixed,Tryz.func125,rfl⟩
def f126_kp:KP:=⟨[],[]⟩
theorem f126_raw {jn:Jn} {e0:Option Addr} {key1:ByteArray} {Q:Value -> WP}:funJ jn Tryz.prog f126_kp Tryz.f126 [.pointer e0,.string key1] Q = (
 nilck e0 fun b_1 o_2=>
 ld .slc b_1 (o_2 + 2) fun (x_3:Sl)=>
 call1 (.int .i64) Tryz.prog 185 [.slice x_3.a x_3.n x_3.c,.string key1] fun (x_4:Int)=>
 ite2 (decide (x_4 >= 0)) (
 nilck e0 fun b_5 o_6=>
 ld .slc b_5 (o_6 + 2) fun (x_7:Sl)=>
 call1 .slc Tryz.prog 169 [.slice x_7.a x_7.n x_7.c,.string key1] fun (x_8:Sl)=>
 newB [.string key1] 9 fun b_9=>
 appendC 9 1 16 [.string str_empty] ⟨x_8.a,x_8.n,x_8.c⟩ 1 (fun w=>rdA w (some ⟨b_9,0,none⟩) (1 * 1)) fun s_10=>
 nilck e0 fun b_11 o_12=>
 st b_11 (o_12 + 2) (.slice s_10.a s_10.n s_10.c) <|
 Q (.tuple #[.bool true,.slice none 0 0])) (
 nilck e0 fun b_13 o_14=>
 ld .slc b_13 o_14 fun (x_15:Sl)=>
 call1 (.int .i64) Tryz.prog 185 [.slice x_15.a x_15.n x_15.c,.string key1] fun (x_16:Int)=>
 ite2 (decide (x_16 >= 0)) (
 Q (.tuple #[.bool true,.slice none 0 0])) (
 nilck e0 fun b_17 o_18=>
 ld .slc b_17 (o_18 + 1) fun (x_19:Sl)=>
 call1 (.int .i64) Tryz.prog 185 [.slice x_19.a x_19.n x_19.c,.string key1] fun (x_20:Int)=>
 ite2 (decide (x_20 >= 0)) (
 nilck e0 fun b_21 o_22=>
 ld .slc b_21 (o_22 + 1) fun (x_23:Sl)=>
 call1 .slc Tryz.prog 169 [.slice x_23.a x_23.n x_23.c,.string key1] fun (x_24:Sl)=>
 nilck e0 fun b_25 o_26=>
 st b_25 (o_26 + 1) (.slice x_24.a x_24.n x_24.c) <|
 call1 .slc Tryz.prog 186 [.pointer e0] fun (x_27:Sl)=>
 nilck e0 fun b_28 o_29=>
 ld .slc b_28 (o_29 + 2) fun (x_30:Sl)=>
 newB [.string key1] 9 fun b_31=>
 appendC 9 1 16 [.string str_empty] ⟨x_30.a,x_30.n,x_30.c⟩ 1 (fun w=>rdA w (some ⟨b_31,0,none⟩) (1 * 1)) fun s_32=>
 nilck e0 fun b_33 o_34=>
 st b_33 (o_34 + 2) (.slice s_32.a s_32.n s_32.c) <|
 Q (.tuple #[.bool false,.slice x_27.a x_27.n x_27.c])) (
 call1 .slc Tryz.prog 186 [.pointer e0] fun (x_35:Sl)=>
 nilck e0 fun b_36 o_37=>
 ld .slc b_36 o_37 fun (x_38:Sl)=>
 newB [.string key1] 9 fun b_39=>
 appendC 9 1 16 [.string str_empty] ⟨x_38.a,x_38.n,x_38.c⟩ 1 (fun w=>rdA w (some ⟨b_39,0,none⟩) (1 * 1)) fun s_40=>
 nilck e0 fun b_41 o_42=>
 st b_41 o_42 (.slice s_40.a s_40.n s_40.c) <|
 Q (.tuple #[.bool false,.slice x_35.a x_35.n x_35.c]))))):=by kernel_rfl
theorem f126_ok:FnOk Tryz.prog 126 Tryz.f126:=⟨mixed,Tryz.func126,rfl⟩
def f127_kp:KP:=⟨[(29,[0,6]),(32,[6])],[(13,[0,1,2,3,4,5,7])]⟩
noncomputable def f127_b (l:List Nat):Code:=cAtN l (bodyOf Tryz.f127)
def f127_r (Q:Value -> WP):Env -> WP:=retK Tryz.prog Tryz.f127 Q
def f127_e14 (jn:Jn) (Q:Value -> WP):Env -> WP:=seqK Tryz.prog f127_kp jn (f127_b [1,1,1,1,1,1]) (f127_r Q) noX (f127_r Q)
def f127_j2_c (jn:Jn) (Q:Value -> WP):Env -> WP:=codeI Tryz.prog f127_kp jn (f127_b [1,1,1,1,1,1]) (f127_r Q) noX (f127_r Q)
def f127_j2 (jn:Jn) (Q:Value -> WP) (l6:Sl):WP:=jn 32 (f127_j2_c jn Q ) (us 6 ((.slice l6.a l6.n l6.c)::us 77 []))
def f127_l1 (jn:Jn) (Q:Value -> WP) (m1:Nat) (e0:Option Addr) (l6:Sl):WP:=lop Tryz.prog f127_kp jn (f127_b [1,1,1,1,1,0,0,0]) (blkX 1 (f127_e14 jn Q) noX) (f127_r Q) m1 ((.pointer e0)::us 5 ((.slice l6.a l6.n l6.c)::us 77 []))
theorem f127_j2_raw {jn:Jn} {Q:Value -> WP} {l6:Sl}:f127_j2_c jn Q  (us 6 ((.slice l6.a l6.n l6.c)::us 77 [])) = (
 Q (.tuple #[.bool false,.slice l6.a l6.n l6.c])):=by kernel_rfl
theorem f127_l1_raw {jn:Jn} {Q:Value -> WP} {m1:Nat} {e0:Option Addr} {l6:Sl}:f127_l1 jn Q  (m1 + 1) e0 l6 = (
 drawW fun S=>
 nilck e0 fun b_36 o_37=>
 ldS S .slc b_36 o_37 fun (x_38:Sl)=>
 call1 (.int .i64) Tryz.prog 191 [.pointer e0] fun (x_39:Int)=>
 keepS true S <|
 ite2 (decide ((x_38.n:Int) > x_39)) (
 call1 .slc Tryz.prog 192 [.pointer e0] fun (x_40:Sl)=>
 appendC 9 1 16 [.string str_empty] ⟨l6.a,l6.n,l6.c⟩ x_40.n (fun w=>rdA w x_40.a (x_40.n * 1)) fun s_41=>
 f127_l1 jn Q  m1 e0 s_41) (
 f127_j2 jn Q  l6)):=by kernel_rfl
theorem f127_raw {jn:Jn} {e0:Option Addr} {key1:ByteArray} {Q:Value -> WP}:funJ jn Tryz.prog f127_kp Tryz.f127 [.pointer e0,.string key1] Q = (
 call0 Tryz.prog 187 [.pointer e0,.string key1] <|
 nilck e0 fun b_1 o_2=>
 ld .slc b_1 o_2 fun (x_3:Sl)=>
 call1 (.int .i64) Tryz.prog 188 [.slice x_3.a x_3.n x_3.c,.string key1] fun (x_4:Int)=>
 ite2 (decide (x_4 >= 0)) (
 nilck e0 fun b_5 o_6=>
 ld .slc b_5 o_6 fun (x_7:Sl)=>
 call1 .slc Tryz.prog 189 [.slice x_7.a x_7.n x_7.c,.string key1] fun (x_8:Sl)=>
 newB [.string key1] 9 fun b_9=>
 appendC 9 1 16 [.string str_empty] ⟨x_8.a,x_8.n,x_8.c⟩ 1 (fun w=>rdA w (some ⟨b_9,0,none⟩) (1 * 1)) fun s_10=>
 nilck e0 fun b_11 o_12=>
 st b_11 o_12 (.slice s_10.a s_10.n s_10.c) <|
 Q (.tuple #[.bool true,.slice none 0 0])) (
 nilck e0 fun b_13 o_14=>
 ld .slc b_13 (o_14 + 2) fun (x_15:Sl)=>
 call1 (.int .i64) Tryz.prog 188 [.slice x_15.a x_15.n x_15.c,.string key1] fun (x_16:Int)=>
 ite2 (decide (x_16 >= 0)) (
 nilck e0 fun b_17 o_18=>
 ld .slc b_17 (o_18 + 2) fun (x_19:Sl)=>
 call1 .slc Tryz.prog 189 [.slice x_19.a x_19.n x_19.c,.string key1] fun (x_20:Sl)=>
 newB [.string key1] 9 fun b_21=>
 appendC 9 1 16 [.string str_empty] ⟨x_20.a,x_20.n,x_20.c⟩ 1 (fun w=>rdA w (some ⟨b_21,0,none⟩) (1 * 1)) fun s_22=>
 nilck e0 fun b_23 o_24=>
 st b_23 (o_24 + 2) (.slice s_22.a s_22.n s_22.c) <|
 Q (.tuple #[.bool true,.slice none 0 0])) (
 nilck e0 fun b_25 o_26=>
 ld .slc b_25 (o_26 + 1) fun (x_27:Sl)=>
 call1 (.int .i64) Tryz.prog 188 [.slice x_27.a x_27.n x_27.c,.string key1] fun (x_28:Int)=>
 ite2 (decide (x_28 >= 0)) (
 call0 Tryz.prog 190 [.pointer e0,.string key1] <|
 Q (.tuple #[.bool true,.slice none 0 0])) (
 nilck e0 fun b_29 o_30=>
 ld .slc b_29 o_30 fun (x_31:Sl)=>
 newB [.string key1] 9 fun b_32=>
 appendC 9 1 16 [.string str_empty] ⟨x_31.a,x_31.n,x_31.c⟩ 1 (fun w=>rdA w (some ⟨b_32,0,none⟩) (1 * 1)) fun s_33=>
 nilck e0 fun b_34 o_35=>
 st b_34 o_35 (.slice s_33.a s_33.n s_33.c) <|
 exM fun m=>f127_l1 jn Q  m e0 ⟨none,0,0⟩)))):=by kernel_rfl
theorem f127_ok:FnOk Tryz.prog 127 Tryz.f127:=⟨mixed,Tryz.func127,rfl⟩
def f128_kp:KP:=⟨[(21,[0,1,8]),(26,[0,1,8])],[(1,[0,1,2,3,4,6,7,8,9,10,12,13]),(3,[0,1,2,3,4,5,6,7,9,10,11,13,14,15,16]),(6,[0,1,2,3,4,5,6,7,9,10,11,13,14,15,16]),(9,[0,2,3,4,5,6])]⟩
noncomputable def f128_b (l:List Nat):Code:=cAtN l (bodyOf Tryz.f128)
def f128_r (Q:Value -> WP):Env -> WP:=retK Tryz.prog Tryz.f128 Q
def f128_e11 (jn:Jn) (Q:Value -> WP):Env -> WP:=seqK Tryz.prog f128_kp jn (f128_b [1,1,1,1,1,1]) (f128_r Q) noX (f128_r Q)
def f128_j2_c (jn:Jn) (Q:Value -> WP):Env -> WP:=codeI Tryz.prog f128_kp jn (f128_b [1,1,1,1,1,1]) (f128_r Q) noX (f128_r Q)
def f128_j2 (jn:Jn) (Q:Value -> WP) (e0:Option Addr) (key1:ByteArray) (l8:Sl):WP:=jn 26 (f128_j2_c jn Q ) ((.pointer e0)::(.string key1)::us 6 ((.slice l8.a l8.n l8.c)::us 94 []))
def f128_l1 (jn:Jn) (Q:Value -> WP) (m1:Nat) (e0:Option Addr) (key1:ByteArray) (l8:Sl):WP:=lop Tryz.prog f128_kp jn (f128_b [1,1,1,1,1,0,0,0]) (blkX 0 (f128_e11 jn Q) noX) (f128_r Q) m1 ((.pointer e0)::(.string key1)::us 6 ((.slice l8.a l8.n l8.c)::us 94 []))
theorem f128_j2_raw {jn:Jn} {Q:Value -> WP} {e0:Option Addr} {key1:ByteArray} {l8:Sl}:f128_j2_c jn Q  ((.pointer e0)::(.string key1)::us 6 ((.slice l8.a l8.n l8.c)::us 94 [])) = (
 call1 .bool Tryz.prog 194 [.pointer e0,.string key1] fun (x_39:Bool)=>
 ite2 x_39 (
 nilck e0 fun b_40 o_41=>
 ld .slc b_40 (o_41 + 1) fun (x_42:Sl)=>
 newB [.string key1,.int .i64 0] 230 fun b_43=>
 appendC 230 2 24 [.string str_empty,.int .i64 0] ⟨x_42.a,x_42.n,x_42.c⟩ 1 (fun w=>rdA w (some ⟨b_43,0,none⟩) (1 * 2)) fun s_44=>
 nilck e0 fun b_45 o_46=>
 st b_45 (o_46 + 1) (.slice s_44.a s_44.n s_44.c) <|
 Q (.tuple #[.bool false,.slice l8.a l8.n l8.c])) (
 nilck e0 fun b_47 o_48=>
 ld .slc b_47 o_48 fun (x_49:Sl)=>
 newB [.string key1,.int .i64 0] 230 fun b_50=>
 appendC 230 2 24 [.string str_empty,.int .i64 0] ⟨x_49.a,x_49.n,x_49.c⟩ 1 (fun w=>rdA w (some ⟨b_50,0,none⟩) (1 * 2)) fun s_51=>
 nilck e0 fun b_52 o_53=>
 st b_52 o_53 (.slice s_51.a s_51.n s_51.c) <|
 Q (.tuple #[.bool false,.slice l8.a l8.n l8.c]))):=by kernel_rfl
theorem f128_l1_raw {jn:Jn} {Q:Value -> WP} {m1:Nat} {e0:Option Addr} {key1:ByteArray} {l8:Sl}:f128_l1 jn Q  (m1 + 1) e0 key1 l8 = (
 drawW fun S=>
 nilck e0 fun b_31 o_32=>
 ldS S (.int .i64) b_31 (o_32 + 3) fun (x_33:Int)=>
 call1 (.int .i64) Tryz.prog 170 [.pointer e0] fun (x_34:Int)=>
 keepS true S <|
 ite2 (decide (x_34 >= x_33)) (
 call2 .str .bool Tryz.prog 123 [.pointer e0] fun (x_35:ByteArray) (x_36:Bool)=>
 newB [.string x_35] 9 fun b_37=>
 appendC 9 1 16 [.string str_empty] ⟨l8.a,l8.n,l8.c⟩ 1 (fun w=>rdA w (some ⟨b_37,0,none⟩) (1 * 1)) fun s_38=>
 f128_l1 jn Q  m1 e0 key1 s_38) (
 f128_j2 jn Q  e0 key1 l8)):=by kernel_rfl
theorem f128_raw {jn:Jn} {e0:Option Addr} {key1:ByteArray} {Q:Value -> WP}:funJ jn Tryz.prog f128_kp Tryz.f128 [.pointer e0,.string key1] Q = (
 drawW fun S=>
 nilck e0 fun b_1 o_2=>
 ldS S .slc b_1 o_2 fun (x_3:Sl)=>
 nilck e0 fun b_4 o_5=>
 ldS S .slc b_4 (o_5 + 1) fun (x_6:Sl)=>
 call1 (.int .i64) Tryz.prog 193 [.slice x_3.a x_3.n x_3.c,.string key1] fun (x_7:Int)=>
 keepS true S <|
 call1 (.int .i64) Tryz.prog 193 [.slice x_6.a x_6.n x_6.c,.string key1] fun (x_8:Int)=>
 ite2 (decide (x_7 >= 0)) (
 drawW fun S=>
 nilck e0 fun b_9 o_10=>
 ldS S .slc b_9 o_10 fun (x_11:Sl)=>
 nilck e0 fun b_12 o_13=>
 ld .slc b_12 o_13 fun (x_14:Sl)=>
 keepS true S <|
 idx x_14.a x_14.n x_7 fun b_15 o_16=>
 ld (.int .i64) b_15 ((o_16 + (x_7).toNat * 2) + 1) fun (x_17:Int)=>
 keepS true S <|
 idx x_11.a x_11.n x_7 fun b_18 o_19=>
 st b_18 ((o_19 + (x_7).toNat * 2) + 1) (.int .i64 (if (IntKind.wrap .i64 (x_17 + 1)) < 3 then (IntKind.wrap .i64 (x_17 + 1)) else 3)) <|
 Q (.tuple #[.bool true,.slice none 0 0])) (
 ite2 (decide (x_8 >= 0)) (
 drawW fun S=>
 nilck e0 fun b_20 o_21=>
 ldS S .slc b_20 (o_21 + 1) fun (x_22:Sl)=>
 nilck e0 fun b_23 o_24=>
 ld .slc b_23 (o_24 + 1) fun (x_25:Sl)=>
 keepS true S <|
 idx x_25.a x_25.n x_8 fun b_26 o_27=>
 ld (.int .i64) b_26 ((o_27 + (x_8).toNat * 2) + 1) fun (x_28:Int)=>
 keepS true S <|
 idx x_22.a x_22.n x_8 fun b_29 o_30=>
 st b_29 ((o_30 + (x_8).toNat * 2) + 1) (.int .i64 (if (IntKind.wrap .i64 (x_28 + 1)) < 3 then (IntKind.wrap .i64 (x_28 + 1)) else 3)) <|
 Q (.tuple #[.bool true,.slice none 0 0])) (
 exM fun m=>f128_l1 jn Q  m e0 key1 ⟨none,0,0⟩))):=by kernel_rfl
theorem f128_ok:FnOk Tryz.prog 128 Tryz.f128:=⟨mixed,Tryz.func128,rfl⟩
def f129_kp:KP:=⟨[],[]⟩
theorem f129_raw {jn:Jn} {e0:Option Addr} {Q:Value -> WP}:funJ jn Tryz.prog f129_kp Tryz.f129 [.pointer e0] Q = (
 nilck e0 fun b_1 o_2=>
 ld (.int .i64) b_1 o_2 fun (x_3:Int)=>
 ite2 (x_3 == 0) (
 nilck e0 fun b_4 o_5=>
 ld .ptr b_4 (o_5 + 1) fun (x_6:Option Addr)=>
 call1 .slc Tryz.prog 195 [.pointer x_6] fun (x_7:Sl)=>
 Q (.slice x_7.a x_7.n x_7.c)) (
 ite2 (x_3 == 1) (
 nilck e0 fun b_8 o_9=>
 ld .ptr b_8 (o_9 + 2) fun (x_10:Option Addr)=>
 call1 .slc Tryz.prog 196 [.pointer x_10] fun (x_11:Sl)=>
 Q (.slice x_11.a x_11.n x_11.c)) (
 ite2 (x_3 == 2) (
 nilck e0 fun b_12 o_13=>
 ld .ptr b_12 (o_13 + 3) fun (x_14:Option Addr)=>
 call1 .slc Tryz.prog 197 [.pointer x_14] fun (x_15:Sl)=>
 Q (.slice x_15.a x_15.n x_15.c)) (
 ite2 (x_3 == 3) (
 nilck e0 fun b_16 o_17=>
 ld .ptr b_16 (o_17 + 4) fun (x_18:Option Addr)=>
 call1 .slc Tryz.prog 198 [.pointer x_18] fun (x_19:Sl)=>
 Q (.slice x_19.a x_19.n x_19.c)) (
 nilck e0 fun b_20 o_21=>
 ld .ptr b_20 (o_21 + 5) fun (x_22:Option Addr)=>
 call1 .slc Tryz.prog 199 [.pointer x_22] fun (x_23:Sl)=>
 Q (.slice x_23.a x_23.n x_23.c)))))):=by kernel_rfl
theorem f129_ok:FnOk Tryz.prog 129 Tryz.f129:=⟨mixed,Tryz.func129,rfl⟩
def f130_kp:KP:=⟨[(7,[1,3]),(14,[1])],[]⟩
noncomputable def f130_b (l:List Nat):Code:=cAtN l (bodyOf Tryz.f130)
def f130_r (Q:Value -> WP):Env -> WP:=retK Tryz.prog Tryz.f130 Q
def f130_e1 (jn:Jn) (Q:Value -> WP):Env -> WP:=seqK Tryz.prog f130_kp jn (f130_b [1,1]) (f130_r Q) noX (f130_r Q)
def f130_j2_c (jn:Jn) (Q:Value -> WP):Env -> WP:=codeI Tryz.prog f130_kp jn (f130_b [1,1]) (f130_r Q) noX (f130_r Q)
def f130_j2 (jn:Jn) (Q:Value -> WP) (w1_b w1_o:Nat):WP:=jn 14 (f130_j2_c jn Q ) (us 1 ((.pointer (some ⟨w1_b,w1_o,none⟩))::us 19 []))
def f130_l1 (jn:Jn) (Q:Value -> WP) (m1:Nat) (w1_b w1_o:Nat) (i3:Int):WP:=lop Tryz.prog f130_kp jn (f130_b [1,0,1,0,0]) (blkX 0 (f130_e1 jn Q) noX) (f130_r Q) m1 (us 1 ((.pointer (some ⟨w1_b,w1_o,none⟩))::us 1 ((.int .i64 i3)::us 17 [])))
theorem f130_j2_raw {jn:Jn} {Q:Value -> WP} {w1_b w1_o:Nat}:f130_j2_c jn Q  (us 1 ((.pointer (some ⟨w1_b,w1_o,none⟩))::us 19 [])) = (
 ld (.int .u64) w1_b w1_o fun (x_4:Int)=>
 ld (.int .u64) w1_b (w1_o + 1) fun (x_5:Int)=>
 ld (.int .u64) w1_b ((w1_o + 1) + 1) fun (x_6:Int)=>
 ld (.int .u64) w1_b (((w1_o + 1) + 1) + 1) fun (x_7:Int)=>
 ld (.int .u64) w1_b ((((w1_o + 1) + 1) + 1) + 1) fun (x_8:Int)=>
 call1 (.int .u64) Tryz.prog 134 [.agg #[.int .u64 x_4,.int .u64 x_5,.int .u64 x_6,.int .u64 x_7,.int .u64 x_8]] fun (x_9:Int)=>
 Q (.bool (x_9 == 4294967296))):=by kernel_rfl
theorem f130_l1_raw {jn:Jn} {Q:Value -> WP} {m1:Nat} {w1_b w1_o:Nat} {i3:Int}:f130_l1 jn Q  (m1 + 1) w1_b w1_o i3 = (
 ite2 (decide (i3 < 5)) (
 when ((0:Int) <= i3 /\ i3 < ((5:Nat):Int)) <|
 ld (.int .u64) w1_b (w1_o + (i3).toNat * 1) fun (x_2:Int)=>
 ite2 (decide (x_2 < 42949672)) (
 Q (.bool false)) (
 when ((0:Int) <= i3 /\ i3 < ((5:Nat):Int)) <|
 ld (.int .u64) w1_b (w1_o + (i3).toNat * 1) fun (x_3:Int)=>
 ite2 (decide (x_3 > 4294967296)) (
 Q (.bool false)) (
 f130_l1 jn Q  m1 w1_b w1_o (IntKind.wrap .i64 (i3 + 1))))) (
 f130_j2 jn Q  w1_b w1_o)):=by kernel_rfl
theorem f130_raw {jn:Jn} {w0_0 w0_1 w0_2 w0_3 w0_4:Int} {Q:Value -> WP}:funJ jn Tryz.prog f130_kp Tryz.f130 [.agg #[.int .u64 w0_0,.int .u64 w0_1,.int .u64 w0_2,.int .u64 w0_3,.int .u64 w0_4]] Q = (
 newB [.int .u64 w0_0,.int .u64 w0_1,.int .u64 w0_2,.int .u64 w0_3,.int .u64 w0_4] 88 fun b_1=>
 exM fun m=>f130_l1 jn Q  m b_1 0 0):=by kernel_rfl
theorem f130_ok:FnOk Tryz.prog 130 Tryz.f130:=⟨mixed,Tryz.func130,rfl⟩
def f131_kp:KP:=⟨[],[]⟩
theorem f131_raw {jn:Jn} {a0 b1:Int} {Q:Value -> WP}:funJ jn Tryz.prog f131_kp Tryz.f131 [.int .u64 a0,.int .u64 b1] Q = (
 call2 (.int .u64) (.int .u64) Tryz.prog 200 [.int .u64 a0,.int .u64 b1] fun (x_1:Int) (x_2:Int)=>
 when ((0:Int) <= (32:Int)) <|
 ite2 ((shrV .u64 x_1 32) != 0) (
 Q (.int .u64 18446744073709551615)) (
 when ((0:Int) <= (32:Int)) <|
 when ((0:Int) <= (32:Int)) <|
 Q (.int .u64 (bits .or .u64 (shlV .u64 x_1 32) (shrV .u64 x_2 32))))):=by kernel_rfl
theorem f131_ok:FnOk Tryz.prog 131 Tryz.f131:=⟨mixed,Tryz.func131,rfl⟩
def f132_kp:KP:=⟨[(9,[0,3,4]),(14,[3])],[]⟩
noncomputable def f132_b (l:List Nat):Code:=cAtN l (bodyOf Tryz.f132)
def f132_r (Q:Value -> WP):Env -> WP:=retK Tryz.prog Tryz.f132 Q
def f132_e2 (jn:Jn) (Q:Value -> WP):Env -> WP:=seqK Tryz.prog f132_kp jn (f132_b [1,1,1]) (f132_r Q) noX (f132_r Q)
def f132_j2_c (jn:Jn) (Q:Value -> WP):Env -> WP:=codeI Tryz.prog f132_kp jn (f132_b [1,1,1]) (f132_r Q) noX (f132_r Q)
def f132_j2 (jn:Jn) (Q:Value -> WP) (n3:Int):WP:=jn 14 (f132_j2_c jn Q ) (us 3 ((.int .u64 n3)::us 11 []))
def f132_l1 (jn:Jn) (Q:Value -> WP) (m1:Nat) (k0 n3 i4:Int):WP:=lop Tryz.prog f132_kp jn (f132_b [1,1,0,1,0,0]) (blkX 0 (f132_e2 jn Q) noX) (f132_r Q) m1 ((.int .i64 k0)::us 2 ((.int .u64 n3)::(.int .i64 i4)::us 10 []))
theorem f132_j2_raw {jn:Jn} {Q:Value -> WP} {n3:Int}:f132_j2_c jn Q  (us 3 ((.int .u64 n3)::us 11 [])) = (
 Q (.int .u64 n3)):=by kernel_rfl
theorem f132_l1_raw {jn:Jn} {Q:Value -> WP} {m1:Nat} {k0 n3 i4:Int}:f132_l1 jn Q  (m1 + 1) k0 n3 i4 = (
 call1 (.int .i64) Tryz.prog 59 [.int .i64 k0,.int .i64 0,.int .i64 15] fun (x_1:Int)=>
 ite2 (decide (i4 < x_1)) (
 when ((10:Int) ≠ 0) <|
 f132_l1 jn Q  m1 k0 (IntKind.wrap .u64 (Int.tdiv (IntKind.wrap .u64 (n3 * 9)) 10)) (IntKind.wrap .i64 (i4 + 1))) (
 f132_j2 jn Q  n3)):=by kernel_rfl
theorem f132_raw {jn:Jn} {k0:Int} {Q:Value -> WP}:funJ jn Tryz.prog f132_kp Tryz.f132 [.int .i64 k0] Q = (
 exM fun m=>f132_l1 jn Q  m k0 4294967296 0):=by kernel_rfl
theorem f132_ok:FnOk Tryz.prog 132 Tryz.f132:=⟨mixed,Tryz.func132,rfl⟩
def f133_kp:KP:=⟨[],[]⟩
theorem f133_raw {jn:Jn} {ghosts0 all1:Int} {Q:Value -> WP}:funJ jn Tryz.prog f133_kp Tryz.f133 [.int .i64 ghosts0,.int .i64 all1] Q = (
 call1 (.int .i64) Tryz.prog 59 [.int .i64 ghosts0,.int .i64 0,.int .i64 1099511627776] fun (x_1:Int)=>
 call1 (.int .i64) Tryz.prog 59 [.int .i64 all1,.int .i64 0,.int .i64 1099511627776] fun (x_2:Int)=>
 ite2 (x_2 == 0) (
 Q (.int .i64 0)) (
 when (x_2 ≠ 0) <|
 Q (.int .i64 (if (IntKind.wrap .i64 (Int.tdiv (IntKind.wrap .i64 (16 * x_1)) x_2)) < 15 then (IntKind.wrap .i64 (Int.tdiv (IntKind.wrap .i64 (16 * x_1)) x_2)) else 15)))):=by kernel_rfl
theorem f133_ok:FnOk Tryz.prog 133 Tryz.f133:=⟨mixed,Tryz.func133,rfl⟩
def f134_kp:KP:=⟨[(9,[1,3,4]),(14,[3])],[]⟩
noncomputable def f134_b (l:List Nat):Code:=cAtN l (bodyOf Tryz.f134)
def f134_r (Q:Value -> WP):Env -> WP:=retK Tryz.prog Tryz.f134 Q
def f134_e2 (jn:Jn) (Q:Value -> WP):Env -> WP:=seqK Tryz.prog f134_kp jn (f134_b [1,1,1]) (f134_r Q) noX (f134_r Q)
def f134_j2_c (jn:Jn) (Q:Value -> WP):Env -> WP:=codeI Tryz.prog f134_kp jn (f134_b [1,1,1]) (f134_r Q) noX (f134_r Q)
def f134_j2 (jn:Jn) (Q:Value -> WP) (n3:Int):WP:=jn 14 (f134_j2_c jn Q ) (us 3 ((.int .u64 n3)::us 11 []))
def f134_l1 (jn:Jn) (Q:Value -> WP) (m1:Nat) (w1_b w1_o:Nat) (n3 i4:Int):WP:=lop Tryz.prog f134_kp jn (f134_b [1,1,0,1,0,0]) (blkX 0 (f134_e2 jn Q) noX) (f134_r Q) m1 (us 1 ((.pointer (some ⟨w1_b,w1_o,none⟩))::us 1 ((.int .u64 n3)::(.int .i64 i4)::us 10 [])))
theorem f134_j2_raw {jn:Jn} {Q:Value -> WP} {n3:Int}:f134_j2_c jn Q  (us 3 ((.int .u64 n3)::us 11 [])) = (
 Q (.int .u64 n3)):=by kernel_rfl
theorem f134_l1_raw {jn:Jn} {Q:Value -> WP} {m1:Nat} {w1_b w1_o:Nat} {n3 i4:Int}:f134_l1 jn Q  (m1 + 1) w1_b w1_o n3 i4 = (
 ite2 (decide (i4 < 5)) (
 when ((0:Int) <= i4 /\ i4 < ((5:Nat):Int)) <|
 ld (.int .u64) w1_b (w1_o + (i4).toNat * 1) fun (x_2:Int)=>
 f134_l1 jn Q  m1 w1_b w1_o (IntKind.wrap .u64 (n3 + x_2)) (IntKind.wrap .i64 (i4 + 1))) (
 f134_j2 jn Q  n3)):=by kernel_rfl
theorem f134_raw {jn:Jn} {w0_0 w0_1 w0_2 w0_3 w0_4:Int} {Q:Value -> WP}:funJ jn Tryz.prog f134_kp Tryz.f134 [.agg #[.int .u64 w0_0,.int .u64 w0_1,.int .u64 w0_2,.int .u64 w0_3,.int .u64 w0_4]] Q = (
 newB [.int .u64 w0_0,.int .u64 w0_1,.int .u64 w0_2,.int .u64 w0_3,.int .u64 w0_4] 88 fun b_1=>
 exM fun m=>f134_l1 jn Q  m b_1 0 0 0):=by kernel_rfl
theorem f134_ok:FnOk Tryz.prog 134 Tryz.f134:=⟨mixed,Tryz.func134,rfl⟩
def f135_kp:KP:=⟨[(15,[2,7,8,9,10,11]),(24,[2,7,8,9,10,11,12]),(36,[2,7,8,9,10,11,57]),(40,[9])],[]⟩
noncomputable def f135_b (l:List Nat):Code:=cAtN l (bodyOf Tryz.f135)
def f135_r (Q:Value -> WP):Env -> WP:=retK Tryz.prog Tryz.f135 Q
def f135_e6 (jn:Jn) (Q:Value -> WP):Env -> WP:=seqK Tryz.prog f135_kp jn (f135_b [1,1,1,1,1]) (f135_r Q) noX (f135_r Q)
def f135_e8 (jn:Jn) (Q:Value -> WP) (m1:Nat):Env -> WP:=lopK Tryz.prog f135_kp jn (f135_b [1,1,1,1,0,1,0,0]) (blkX 0 (f135_e6 jn Q) noX) (f135_r Q) m1
def f135_e11 (jn:Jn) (Q:Value -> WP) (m1:Nat):Env -> WP:=seqK Tryz.prog f135_kp jn (f135_b [1,1,1,1,0,1,0,0,1,1]) (f135_e8 jn Q m1) (blkX 0 (f135_e6 jn Q) noX) (f135_r Q)
def f135_e12 (jn:Jn) (Q:Value -> WP) (m1:Nat):Nat -> Env -> WP:=blkX 1 (f135_e11 jn Q m1) (blkX 0 (f135_e6 jn Q) noX)
def f135_j3_c (jn:Jn) (Q:Value -> WP) (m1:Nat):Env -> WP:=codeI Tryz.prog f135_kp jn (f135_b [1,1,1,1,0,1,0,0,1,0,0,1,1,1,1,1,1,1]) (f135_e11 jn Q m1) (f135_e12 jn Q m1) (f135_r Q)
def f135_j3 (jn:Jn) (Q:Value -> WP) (m1:Nat) (den2 h7 l8 q9 r10 i11:Int) (t57:Bool):WP:=jn 36 (f135_j3_c jn Q m1) (us 2 ((.int .u64 den2)::us 4 ((.int .u64 h7)::(.int .u64 l8)::(.int .u64 q9)::(.int .u64 r10)::(.int .i64 i11)::us 45 ((.bool t57)::us 6 []))))
def f135_j2_c (jn:Jn) (Q:Value -> WP) (m1:Nat):Env -> WP:=codeI Tryz.prog f135_kp jn (f135_b [1,1,1,1,0,1,0,0,1,0,0,1,1]) (f135_e11 jn Q m1) (f135_e12 jn Q m1) (f135_r Q)
def f135_j2 (jn:Jn) (Q:Value -> WP) (m1:Nat) (den2 h7 l8 q9 r10 i11 bit12:Int):WP:=jn 24 (f135_j2_c jn Q m1) (us 2 ((.int .u64 den2)::us 4 ((.int .u64 h7)::(.int .u64 l8)::(.int .u64 q9)::(.int .u64 r10)::(.int .i64 i11)::(.int .u64 bit12)::us 51 [])))
def f135_j4_c (jn:Jn) (Q:Value -> WP):Env -> WP:=codeI Tryz.prog f135_kp jn (f135_b [1,1,1,1,1]) (f135_r Q) noX (f135_r Q)
def f135_j4 (jn:Jn) (Q:Value -> WP) (q9:Int):WP:=jn 40 (f135_j4_c jn Q ) (us 9 ((.int .u64 q9)::us 54 []))
def f135_l1 (jn:Jn) (Q:Value -> WP) (m1:Nat) (den2 h7 l8 q9 r10 i11:Int):WP:=lop Tryz.prog f135_kp jn (f135_b [1,1,1,1,0,1,0,0]) (blkX 0 (f135_e6 jn Q) noX) (f135_r Q) m1 (us 2 ((.int .u64 den2)::us 4 ((.int .u64 h7)::(.int .u64 l8)::(.int .u64 q9)::(.int .u64 r10)::(.int .i64 i11)::us 52 [])))
theorem f135_j3_raw {jn:Jn} {Q:Value -> WP} {m1:Nat} {den2 h7 l8 q9 r10 i11:Int} {t57:Bool}:f135_j3_c jn Q m1 (us 2 ((.int .u64 den2)::us 4 ((.int .u64 h7)::(.int .u64 l8)::(.int .u64 q9)::(.int .u64 r10)::(.int .i64 i11)::us 45 ((.bool t57)::us 6 [])))) = (
 ite2 t57 (
 f135_l1 jn Q  m1 den2 h7 l8 (bits .or .u64 q9 1) (IntKind.wrap .u64 (r10 - den2)) (IntKind.wrap .i64 (i11 - 1))) (
 f135_l1 jn Q  m1 den2 h7 l8 q9 r10 (IntKind.wrap .i64 (i11 - 1)))):=by kernel_rfl
theorem f135_j2_raw {jn:Jn} {Q:Value -> WP} {m1:Nat} {den2 h7 l8 q9 r10 i11 bit12:Int}:f135_j2_c jn Q m1 (us 2 ((.int .u64 den2)::us 4 ((.int .u64 h7)::(.int .u64 l8)::(.int .u64 q9)::(.int .u64 r10)::(.int .i64 i11)::(.int .u64 bit12)::us 51 []))) = (
 when ((0:Int) <= (63:Int)) <|
 ite2 ((shrV .u64 q9 63) != 0) (
 Q (.int .u64 18446744073709551615)) (
 when ((0:Int) <= (63:Int)) <|
 when ((0:Int) <= (1:Int)) <|
 when ((0:Int) <= (1:Int)) <|
 ite2 ((shrV .u64 r10 63) == 1) (
 f135_j3 jn Q m1 den2 h7 l8 (shlV .u64 q9 1) (bits .or .u64 (shlV .u64 r10 1) bit12) i11 true) (
 f135_j3 jn Q m1 den2 h7 l8 (shlV .u64 q9 1) (bits .or .u64 (shlV .u64 r10 1) bit12) i11 (decide ((bits .or .u64 (shlV .u64 r10 1) bit12) >= den2))))):=by kernel_rfl
theorem f135_j4_raw {jn:Jn} {Q:Value -> WP} {q9:Int}:f135_j4_c jn Q  (us 9 ((.int .u64 q9)::us 54 [])) = (
 Q (.int .u64 q9)):=by kernel_rfl
theorem f135_l1_raw {jn:Jn} {Q:Value -> WP} {m1:Nat} {den2 h7 l8 q9 r10 i11:Int}:f135_l1 jn Q  (m1 + 1) den2 h7 l8 q9 r10 i11 = (
 ite2 (decide (i11 >= 0)) (
 when ((0:Int) <= (IntKind.wrap .u64 (bits .and .i64 i11 (63:Int)))) <|
 ite2 (decide (i11 >= 64)) (
 when ((0:Int) <= (IntKind.wrap .u64 (IntKind.wrap .i64 (i11 - (64:Int))))) <|
 f135_j2 jn Q m1 den2 h7 l8 q9 r10 i11 (bits .and .u64 (shrV .u64 h7 (IntKind.wrap .u64 (IntKind.wrap .i64 (i11 - 64)))) 1)) (
 f135_j2 jn Q m1 den2 h7 l8 q9 r10 i11 (bits .and .u64 (shrV .u64 l8 (IntKind.wrap .u64 (bits .and .i64 i11 63))) 1))) (
 f135_j4 jn Q  q9)):=by kernel_rfl
theorem f135_raw {jn:Jn} {a0 num1 den2:Int} {Q:Value -> WP}:funJ jn Tryz.prog f135_kp Tryz.f135 [.int .u64 a0,.int .u64 num1,.int .u64 den2] Q = (
 ite2 (den2 == 0) (
 Q (.int .u64 18446744073709551615)) (
 call2 (.int .u64) (.int .u64) Tryz.prog 200 [.int .u64 a0,.int .u64 num1] fun (x_1:Int) (x_2:Int)=>
 exM fun m=>f135_l1 jn Q  m den2 x_1 x_2 0 0 127)):=by kernel_rfl
theorem f135_ok:FnOk Tryz.prog 135 Tryz.f135:=⟨mixed,Tryz.func135,rfl⟩
def f136_kp:KP:=⟨[(7,[0,3]),(14,[3])],[]⟩
noncomputable def f136_b (l:List Nat):Code:=cAtN l (bodyOf Tryz.f136)
def f136_r (Q:Value -> WP):Env -> WP:=retK Tryz.prog Tryz.f136 Q
def f136_e2 (jn:Jn) (Q:Value -> WP):Env -> WP:=seqK Tryz.prog f136_kp jn (f136_b [1,1,1]) (f136_r Q) noX (f136_r Q)
def f136_j2_c (jn:Jn) (Q:Value -> WP):Env -> WP:=codeI Tryz.prog f136_kp jn (f136_b [1,1,1]) (f136_r Q) noX (f136_r Q)
def f136_j2 (jn:Jn) (Q:Value -> WP) (n3:Int):WP:=jn 14 (f136_j2_c jn Q ) (us 3 ((.int .i64 n3)::us 16 []))
def f136_l1 (jn:Jn) (Q:Value -> WP) (m1:Nat) (m0:Option Addr) (n3:Int):WP:=lop Tryz.prog f136_kp jn (f136_b [1,1,0,0,0]) (blkX 0 (f136_e2 jn Q) noX) (f136_r Q) m1 ((.pointer m0)::us 2 ((.int .i64 n3)::us 16 []))
theorem f136_j2_raw {jn:Jn} {Q:Value -> WP} {n3:Int}:f136_j2_c jn Q  (us 3 ((.int .i64 n3)::us 16 [])) = (
 Q (.int .i64 n3)):=by kernel_rfl
theorem f136_l1_raw {jn:Jn} {Q:Value -> WP} {m1:Nat} {m0:Option Addr} {n3:Int}:f136_l1 jn Q  (m1 + 1) m0 n3 = (
 nilck m0 fun b_1 o_2=>
 ld .ptr b_1 (o_2 + 1) fun (x_3:Option Addr)=>
 ite2 (!Option.isNone x_3) (
 call2 .str .bool Tryz.prog 91 [.pointer m0] fun (x_4:ByteArray) (x_5:Bool)=>
 ite2 x_5 (
 f136_l1 jn Q  m1 m0 (IntKind.wrap .i64 (n3 + 1))) (
 f136_l1 jn Q  m1 m0 n3)) (
 f136_j2 jn Q  n3)):=by kernel_rfl
theorem f136_raw {jn:Jn} {m0:Option Addr} {Q:Value -> WP}:funJ jn Tryz.prog f136_kp Tryz.f136 [.pointer m0] Q = (
 exM fun m=>f136_l1 jn Q  m m0 0):=by kernel_rfl
theorem f136_ok:FnOk Tryz.prog 136 Tryz.f136:=⟨mixed,Tryz.func136,rfl⟩
def f137_kp:KP:=⟨[],[]⟩
theorem f137_raw {jn:Jn} {m0:Option Addr} {Q:Value -> WP}:funJ jn Tryz.prog f137_kp Tryz.f137 [.pointer m0] Q = (
 call1 (.int .i64) Tryz.prog 87 [.pointer m0] fun (x_1:Int)=>
 ite2 (decide (x_1 > 0)) (
 nilck m0 fun b_2 o_3=>
 ld .ptr b_2 (o_3 + 1) fun (x_4:Option Addr)=>
 call2 .str .bool Tryz.prog 88 [.pointer x_4] fun (x_5:ByteArray) (x_6:Bool)=>
 Q (.tuple #[.string x_5,.bool x_6])) (
 nilck m0 fun b_7 o_8=>
 ld .ptr b_7 o_8 fun (x_9:Option Addr)=>
 call2 .str .bool Tryz.prog 88 [.pointer x_9] fun (x_10:ByteArray) (x_11:Bool)=>
 Q (.tuple #[.string x_10,.bool x_11]))):=by kernel_rfl
theorem f137_ok:FnOk Tryz.prog 137 Tryz.f137:=⟨mixed,Tryz.func137,rfl⟩
def f138_kp:KP:=⟨[(13,[2,8,10]),(18,[8])],[]⟩
noncomputable def f138_b (l:List Nat):Code:=cAtN l (bodyOf Tryz.f138)
def f138_r (Q:Value -> WP):Env -> WP:=retK Tryz.prog Tryz.f138 Q
def f138_e5 (jn:Jn) (Q:Value -> WP):Env -> WP:=seqK Tryz.prog f138_kp jn (f138_b [1,1,1,1]) (f138_r Q) noX (f138_r Q)
def f138_j2_c (jn:Jn) (Q:Value -> WP):Env -> WP:=codeI Tryz.prog f138_kp jn (f138_b [1,1,1,1]) (f138_r Q) noX (f138_r Q)
def f138_j2 (jn:Jn) (Q:Value -> WP) (e8:Option Addr):WP:=jn 18 (f138_j2_c jn Q ) (us 8 ((.pointer e8)::us 24 []))
def f138_l1 (jn:Jn) (Q:Value -> WP) (m1:Nat) (keys2:Sl) (e8:Option Addr) (i10:Int):WP:=lop Tryz.prog f138_kp jn (f138_b [1,1,1,0,1,0,0]) (blkX 0 (f138_e5 jn Q) noX) (f138_r Q) m1 (us 2 ((.slice keys2.a keys2.n keys2.c)::us 5 ((.pointer e8)::us 1 ((.int .i64 i10)::us 22 []))))
theorem f138_j2_raw {jn:Jn} {Q:Value -> WP} {e8:Option Addr}:f138_j2_c jn Q  (us 8 ((.pointer e8)::us 24 [])) = (
 Q (.tuple #[.pointer e8,.int .i64 0])):=by kernel_rfl
theorem f138_l1_raw {jn:Jn} {Q:Value -> WP} {m1:Nat} {keys2:Sl} {e8:Option Addr} {i10:Int}:f138_l1 jn Q  (m1 + 1) keys2 e8 i10 = (
 ite2 (decide (i10 < (keys2.n:Int))) (
 idx keys2.a keys2.n i10 fun b_3 o_4=>
 ld .str b_3 (o_4 + (i10).toNat * 1) fun (x_5:ByteArray)=>
 call1 .bool Tryz.prog 117 [.pointer e8,.string x_5] fun (x_6:Bool)=>
 f138_l1 jn Q  m1 keys2 e8 (IntKind.wrap .i64 (i10 + 1))) (
 f138_j2 jn Q  e8)):=by kernel_rfl
theorem f138_raw {jn:Jn} {kind0 room1:Int} {keys2:Sl} {Q:Value -> WP}:funJ jn Tryz.prog f138_kp Tryz.f138 [.int .i64 kind0,.int .i64 room1,.slice keys2.a keys2.n keys2.c] Q = (
 call2 .ptr (.int .i64) Tryz.prog 58 [.int .i64 kind0,.int .i64 room1] fun (x_1:Option Addr) (x_2:Int)=>
 ite2 (x_2 != 0) (
 Q (.tuple #[.pointer none,.int .i64 x_2])) (
 exM fun m=>f138_l1 jn Q  m keys2 x_1 0)):=by kernel_rfl
theorem f138_ok:FnOk Tryz.prog 138 Tryz.f138:=⟨mixed,Tryz.func138,rfl⟩
def f139_kp:KP:=⟨[],[]⟩
theorem f139_raw {jn:Jn} {room0:Int} {Q:Value -> WP}:funJ jn Tryz.prog f139_kp Tryz.f139 [.int .i64 room0] Q = (
 call1 (.int .i64) Tryz.prog 201 [.int .i64 room0,.int .i64 8] fun (x_1:Int)=>
 makeC 3 8 [.int .i64 0] (IntKind.wrap .i64 (4 * x_1)) (IntKind.wrap .i64 (4 * x_1)) fun s_2=>
 newB [.slice s_2.a s_2.n s_2.c,.int .i64 x_1,.int .i64 0] 242 fun b_3=>
 Q (.pointer (some ⟨b_3,0,none⟩))):=by kernel_rfl
theorem f139_ok:FnOk Tryz.prog 139 Tryz.f139:=⟨mixed,Tryz.func139,rfl⟩
def f140_kp:KP:=⟨[],[]⟩
theorem f140_raw {jn:Jn} {room0:Int} {Q:Value -> WP}:funJ jn Tryz.prog f140_kp Tryz.f140 [.int .i64 room0] Q = (
 call1 (.int .i64) Tryz.prog 201 [.int .i64 room0,.int .i64 1] fun (x_1:Int)=>
 makeC 4 1 [.bool false] (if (IntKind.wrap .i64 (8 * x_1)) > 64 then (IntKind.wrap .i64 (8 * x_1)) else 64) (if (IntKind.wrap .i64 (8 * x_1)) > 64 then (IntKind.wrap .i64 (8 * x_1)) else 64) fun s_2=>
 newB [.slice s_2.a s_2.n s_2.c] 245 fun b_3=>
 Q (.pointer (some ⟨b_3,0,none⟩))):=by kernel_rfl
theorem f140_ok:FnOk Tryz.prog 140 Tryz.f140:=⟨mixed,Tryz.func140,rfl⟩
def f141_kp:KP:=⟨[(8,[0,1,6,7]),(11,[0,1,6,7]),(14,[0,1,6,7,8,35]),(18,[0,1,6,7,8,50]),(22,[0,1,6,7,8,61])],[(2,[0,1,2,3,4,6,7,8,9,10,12])]⟩
noncomputable def f141_b (l:List Nat):Code:=cAtN l (bodyOf Tryz.f141)
def f141_r (Q:Value -> WP):Env -> WP:=retK Tryz.prog Tryz.f141 Q
def f141_e3 (jn:Jn) (Q:Value -> WP) (m1:Nat):Env -> WP:=lopK Tryz.prog f141_kp jn (f141_b [1,1,1,0,0]) (blkX 0 (f141_r Q) noX) (f141_r Q) m1
def f141_e4 (jn:Jn) (Q:Value -> WP) (m1:Nat):Env -> WP:=seqK Tryz.prog f141_kp jn (f141_b [1,1,1,0,0,1]) (f141_e3 jn Q m1) (blkX 0 (f141_r Q) noX) (f141_r Q)
def f141_e5 (jn:Jn) (Q:Value -> WP) (m1:Nat):Nat -> Env -> WP:=blkX 1 (f141_e4 jn Q m1) (blkX 0 (f141_r Q) noX)
def f141_e7 (jn:Jn) (Q:Value -> WP) (m1:Nat):Nat -> Env -> WP:=blkX 2 (f141_e4 jn Q m1) (f141_e5 jn Q m1)
def f141_j4_c (jn:Jn) (Q:Value -> WP) (m1:Nat):Env -> WP:=codeI Tryz.prog f141_kp jn (f141_b [1,1,1,0,0,1]) (f141_e3 jn Q m1) (blkX 0 (f141_r Q) noX) (f141_r Q)
def f141_j4 (jn:Jn) (Q:Value -> WP) (m1:Nat) (x0:Option Addr) (key1:ByteArray) (free6 i7:Int):WP:=jn 8 (f141_j4_c jn Q m1) ((.pointer x0)::(.string key1)::us 4 ((.int .i64 free6)::(.int .i64 i7)::us 71 []))
def f141_j5_c (jn:Jn) (Q:Value -> WP) (m1:Nat):Env -> WP:=codeI Tryz.prog f141_kp jn (f141_b [1,1,1,0,0,0,0,1,0,1,1,1,1,1]) (f141_e4 jn Q m1) (f141_e7 jn Q m1) (f141_r Q)
def f141_j5 (jn:Jn) (Q:Value -> WP) (m1:Nat) (x0:Option Addr) (key1:ByteArray) (free6 i7:Int) (p8_b p8_o:Nat) (t61:Bool):WP:=jn 22 (f141_j5_c jn Q m1) ((.pointer x0)::(.string key1)::us 4 ((.int .i64 free6)::(.int .i64 i7)::(.pointer (some ⟨p8_b,p8_o,none⟩))::us 52 ((.bool t61)::us 17 [])))
def f141_j3_c (jn:Jn) (Q:Value -> WP) (m1:Nat):Env -> WP:=codeI Tryz.prog f141_kp jn (f141_b [1,1,1,0,0,0,0,1,0,1,1,1]) (f141_e4 jn Q m1) (f141_e7 jn Q m1) (f141_r Q)
def f141_j3 (jn:Jn) (Q:Value -> WP) (m1:Nat) (x0:Option Addr) (key1:ByteArray) (free6 i7:Int) (p8_b p8_o:Nat) (t50:Bool):WP:=jn 18 (f141_j3_c jn Q m1) ((.pointer x0)::(.string key1)::us 4 ((.int .i64 free6)::(.int .i64 i7)::(.pointer (some ⟨p8_b,p8_o,none⟩))::us 41 ((.bool t50)::us 28 [])))
def f141_j2_c (jn:Jn) (Q:Value -> WP) (m1:Nat):Env -> WP:=codeI Tryz.prog f141_kp jn (f141_b [1,1,1,0,0,0,0,1,0,1]) (f141_e4 jn Q m1) (f141_e7 jn Q m1) (f141_r Q)
def f141_j2 (jn:Jn) (Q:Value -> WP) (m1:Nat) (x0:Option Addr) (key1:ByteArray) (free6 i7:Int) (p8_b p8_o:Nat) (t35:Bool):WP:=jn 14 (f141_j2_c jn Q m1) ((.pointer x0)::(.string key1)::us 4 ((.int .i64 free6)::(.int .i64 i7)::(.pointer (some ⟨p8_b,p8_o,none⟩))::us 26 ((.bool t35)::us 43 [])))
def f141_l1 (jn:Jn) (Q:Value -> WP) (m1:Nat) (x0:Option Addr) (key1:ByteArray) (free6 i7:Int):WP:=lop Tryz.prog f141_kp jn (f141_b [1,1,1,0,0]) (blkX 0 (f141_r Q) noX) (f141_r Q) m1 ((.pointer x0)::(.string key1)::us 4 ((.int .i64 free6)::(.int .i64 i7)::us 71 []))
theorem f141_j4_raw {jn:Jn} {Q:Value -> WP} {m1:Nat} {x0:Option Addr} {key1:ByteArray} {free6 i7:Int}:f141_j4_c jn Q m1 ((.pointer x0)::(.string key1)::us 4 ((.int .i64 free6)::(.int .i64 i7)::us 71 [])) = (
 nilck x0 fun b_23 o_24=>
 ld .slc b_23 (o_24 + 1) fun (x_25:Sl)=>
 when ((x_25.n:Int) ≠ 0) <|
 f141_l1 jn Q  m1 x0 key1 free6 (Int.tmod (IntKind.wrap .i64 (i7 + 1)) (x_25.n:Int))):=by kernel_rfl
theorem f141_j5_raw {jn:Jn} {Q:Value -> WP} {m1:Nat} {x0:Option Addr} {key1:ByteArray} {free6 i7:Int} {p8_b p8_o:Nat} {t61:Bool}:f141_j5_c jn Q m1 ((.pointer x0)::(.string key1)::us 4 ((.int .i64 free6)::(.int .i64 i7)::(.pointer (some ⟨p8_b,p8_o,none⟩))::us 52 ((.bool t61)::us 17 []))) = (
 ite2 t61 (
 Q (.tuple #[.int .i64 i7,.bool false])) (
 nilck (some ⟨p8_b,p8_o,none⟩) fun b_29 o_30=>
 ld (.int .i64) b_29 o_30 fun (x_31:Int)=>
 ite2 (x_31 == 0) (
 Q (.tuple #[.int .i64 free6,.bool false])) (
 f141_j4 jn Q m1 x0 key1 free6 i7))):=by kernel_rfl
theorem f141_j3_raw {jn:Jn} {Q:Value -> WP} {m1:Nat} {x0:Option Addr} {key1:ByteArray} {free6 i7:Int} {p8_b p8_o:Nat} {t50:Bool}:f141_j3_c jn Q m1 ((.pointer x0)::(.string key1)::us 4 ((.int .i64 free6)::(.int .i64 i7)::(.pointer (some ⟨p8_b,p8_o,none⟩))::us 41 ((.bool t50)::us 28 []))) = (
 ite2 t50 (
 f141_j4 jn Q m1 x0 key1 i7 i7) (
 nilck (some ⟨p8_b,p8_o,none⟩) fun b_26 o_27=>
 ld (.int .i64) b_26 o_27 fun (x_28:Int)=>
 ite2 (x_28 == 0) (
 f141_j5 jn Q m1 x0 key1 free6 i7 p8_b p8_o (decide (free6 < 0))) (
 f141_j5 jn Q m1 x0 key1 free6 i7 p8_b p8_o false))):=by kernel_rfl
theorem f141_j2_raw {jn:Jn} {Q:Value -> WP} {m1:Nat} {x0:Option Addr} {key1:ByteArray} {free6 i7:Int} {p8_b p8_o:Nat} {t35:Bool}:f141_j2_c jn Q m1 ((.pointer x0)::(.string key1)::us 4 ((.int .i64 free6)::(.int .i64 i7)::(.pointer (some ⟨p8_b,p8_o,none⟩))::us 26 ((.bool t35)::us 43 []))) = (
 ite2 t35 (
 Q (.tuple #[.int .i64 i7,.bool true])) (
 nilck (some ⟨p8_b,p8_o,none⟩) fun b_20 o_21=>
 ld (.int .i64) b_20 o_21 fun (x_22:Int)=>
 ite2 (x_22 == 1) (
 f141_j3 jn Q m1 x0 key1 free6 i7 p8_b p8_o (decide (free6 < 0))) (
 f141_j3 jn Q m1 x0 key1 free6 i7 p8_b p8_o false))):=by kernel_rfl
theorem f141_l1_raw {jn:Jn} {Q:Value -> WP} {m1:Nat} {x0:Option Addr} {key1:ByteArray} {free6 i7:Int}:f141_l1 jn Q  (m1 + 1) x0 key1 free6 i7 = (
 nilck x0 fun b_9 o_10=>
 ld .slc b_9 (o_10 + 1) fun (x_11:Sl)=>
 idx x_11.a x_11.n i7 fun b_12 o_13=>
 nilck (some ⟨b_12,(o_13 + (i7).toNat * 4),none⟩) fun b_14 o_15=>
 ld (.int .i64) b_14 o_15 fun (x_16:Int)=>
 ite2 (x_16 == 2) (
 nilck (some ⟨b_12,(o_13 + (i7).toNat * 4),none⟩) fun b_17 o_18=>
 ld .str b_17 (o_18 + 1) fun (x_19:ByteArray)=>
 f141_j2 jn Q m1 x0 key1 free6 i7 b_12 (o_13 + (i7).toNat * 4) (sEq x_19 key1)) (
 f141_j2 jn Q m1 x0 key1 free6 i7 b_12 (o_13 + (i7).toNat * 4) false)):=by kernel_rfl
theorem f141_raw {jn:Jn} {x0:Option Addr} {key1:ByteArray} {Q:Value -> WP}:funJ jn Tryz.prog f141_kp Tryz.f141 [.pointer x0,.string key1] Q = (
 drawW fun S=>
 nilck x0 fun b_1 o_2=>
 ldS S (.int .u64) b_1 o_2 fun (x_3:Int)=>
 nilck x0 fun b_4 o_5=>
 ldS S .slc b_4 (o_5 + 1) fun (x_6:Sl)=>
 call1 (.int .u64) Tryz.prog 203 [.int .u64 x_3,.string key1] fun (x_7:Int)=>
 keepS true S <|
 call1 (.int .i64) Tryz.prog 202 [.int .u64 x_7,.int .i64 (x_6.n:Int)] fun (x_8:Int)=>
 exM fun m=>f141_l1 jn Q  m x0 key1 (-1) x_8):=by kernel_rfl
theorem f141_ok:FnOk Tryz.prog 141 Tryz.f141:=⟨mixed,Tryz.func141,rfl⟩
def f143_kp:KP:=⟨[(8,[0,1,2,7])],[(3,[0,1,2,3,4,5,7,8])]⟩
noncomputable def f143_b (l:List Nat):Code:=cAtN l (bodyOf Tryz.f143)
def f143_r (Q:Value -> WP):Env -> WP:=retK Tryz.prog Tryz.f143 Q
def f143_j1_c (jn:Jn) (Q:Value -> WP):Env -> WP:=codeI Tryz.prog f143_kp jn (f143_b [1,1]) (f143_r Q) noX (f143_r Q)
def f143_j1 (jn:Jn) (Q:Value -> WP) (x0:Option Addr) (i1:Int) (key2:ByteArray) (v7_b v7_o:Nat):WP:=jn 8 (f143_j1_c jn Q ) ((.pointer x0)::(.int .i64 i1)::(.string key2)::us 4 ((.pointer (some ⟨v7_b,v7_o,none⟩))::us 32 []))
theorem f143_j1_raw {jn:Jn} {Q:Value -> WP} {x0:Option Addr} {i1:Int} {key2:ByteArray} {v7_b v7_o:Nat}:f143_j1_c jn Q  ((.pointer x0)::(.int .i64 i1)::(.string key2)::us 4 ((.pointer (some ⟨v7_b,v7_o,none⟩))::us 32 [])) = (
 drawW fun S=>
 nilck x0 fun b_13 o_14=>
 ldS S .slc b_13 (o_14 + 1) fun (x_15:Sl)=>
 ld .str v7_b v7_o fun (x_16:ByteArray)=>
 ld (.int .i64) v7_b (v7_o + 1) fun (x_17:Int)=>
 keepS true S <|
 idx x_15.a x_15.n i1 fun b_18 o_19=>
 st b_18 (o_19 + (i1).toNat * 4) (.int .i64 2) <|
 st b_18 ((o_19 + (i1).toNat * 4) + 1) (.string key2) <|
 st b_18 (((o_19 + (i1).toNat * 4) + 1) + 1) (.string x_16) <|
 st b_18 ((((o_19 + (i1).toNat * 4) + 1) + 1) + 1) (.int .i64 x_17) <|
 nilck x0 fun b_20 o_21=>
 ld (.int .i64) b_20 (o_21 + 2) fun (x_22:Int)=>
 nilck x0 fun b_23 o_24=>
 st b_23 (o_24 + 2) (.int .i64 (IntKind.wrap .i64 (x_22 + 1))) <|
 Q (.tuple #[])):=by kernel_rfl
theorem f143_raw {jn:Jn} {x0:Option Addr} {i1:Int} {key2 v3_0:ByteArray} {v3_1:Int} {Q:Value -> WP}:funJ jn Tryz.prog f143_kp Tryz.f143 [.pointer x0,.int .i64 i1,.string key2,.agg #[.string v3_0,.int .i64 v3_1]] Q = (
 newB [.string v3_0,.int .i64 v3_1] 141 fun b_1=>
 nilck x0 fun b_2 o_3=>
 ld .slc b_2 (o_3 + 1) fun (x_4:Sl)=>
 idx x_4.a x_4.n i1 fun b_5 o_6=>
 ld (.int .i64) b_5 (o_6 + (i1).toNat * 4) fun (x_7:Int)=>
 ite2 (x_7 == 0) (
 nilck x0 fun b_8 o_9=>
 ld (.int .i64) b_8 (o_9 + 3) fun (x_10:Int)=>
 nilck x0 fun b_11 o_12=>
 st b_11 (o_12 + 3) (.int .i64 (IntKind.wrap .i64 (x_10 + 1))) <|
 f143_j1 jn Q  x0 i1 key2 b_1 0) (
 f143_j1 jn Q  x0 i1 key2 b_1 0)):=by kernel_rfl
theorem f143_ok:FnOk Tryz.prog 143 Tryz.f143:=⟨mixed,Tryz.func143,rfl⟩
def f144_kp:KP:=⟨[(9,[0,28,29,30])],[]⟩
noncomputable def f144_b (l:List Nat):Code:=cAtN l (bodyOf Tryz.f144)
def f144_r (Q:Value -> WP):Env -> WP:=retK Tryz.prog Tryz.f144 Q
def f144_l1 (jn:Jn) (Q:Value -> WP) (m1:Nat) (x0:Option Addr) (t28:Sl) (t29 t30:Int):WP:=lop Tryz.prog f144_kp jn (f144_b [1,1,1,0,0]) (blkX 0 (f144_r Q) noX) (f144_r Q) m1 ((.pointer x0)::us 27 ((.slice t28.a t28.n t28.c)::(.int .i64 t29)::(.int .i64 t30)::us 21 []))
theorem f144_l1_raw {jn:Jn} {Q:Value -> WP} {m1:Nat} {x0:Option Addr} {t28:Sl} {t29 t30:Int}:f144_l1 jn Q  (m1 + 1) x0 t28 t29 t30 = (
 ite2 (decide (t30 < t29)) (
 idx t28.a t28.n t30 fun b_14 o_15=>
 ld (.int .i64) b_14 (o_15 + (t30).toNat * 4) fun (x_16:Int)=>
 ld .str b_14 ((o_15 + (t30).toNat * 4) + 1) fun (x_17:ByteArray)=>
 ld .str b_14 (((o_15 + (t30).toNat * 4) + 1) + 1) fun (x_18:ByteArray)=>
 ld (.int .i64) b_14 ((((o_15 + (t30).toNat * 4) + 1) + 1) + 1) fun (x_19:Int)=>
 newB [.int .i64 0,.string str_empty,.string str_empty,.int .i64 0] 219 fun b_20=>
 st b_20 0 (.int .i64 x_16) <|
 st b_20 1 (.string x_17) <|
 st b_20 2 (.string x_18) <|
 st b_20 3 (.int .i64 x_19) <|
 ld (.int .i64) b_20 0 fun (x_21:Int)=>
 ite2 (x_21 == 2) (
 ld .str b_20 1 fun (x_22:ByteArray)=>
 call2 (.int .i64) .bool Tryz.prog 141 [.pointer x0,.string x_22] fun (x_23:Int) (x_24:Bool)=>
 ld .str b_20 1 fun (x_25:ByteArray)=>
 ld .str b_20 2 fun (x_26:ByteArray)=>
 ld (.int .i64) b_20 3 fun (x_27:Int)=>
 call0 Tryz.prog 143 [.pointer x0,.int .i64 x_23,.string x_25,.agg #[.string x_26,.int .i64 x_27]] <|
 f144_l1 jn Q  m1 x0 t28 t29 (IntKind.wrap .i64 (t30 + 1))) (
 f144_l1 jn Q  m1 x0 t28 t29 (IntKind.wrap .i64 (t30 + 1)))) (
 Q (.tuple #[]))):=by kernel_rfl
theorem f144_raw {jn:Jn} {x0:Option Addr} {Q:Value -> WP}:funJ jn Tryz.prog f144_kp Tryz.f144 [.pointer x0] Q = (
 nilck x0 fun b_1 o_2=>
 ld .slc b_1 (o_2 + 1) fun (x_3:Sl)=>
 nilck x0 fun b_4 o_5=>
 ld (.int .i64) b_4 (o_5 + 2) fun (x_6:Int)=>
 makeC 219 48 [.int .i64 0,.string str_empty,.string str_empty,.int .i64 0] (if (IntKind.wrap .i64 (4 * (IntKind.wrap .i64 (x_6 + 1)))) > 8 then (IntKind.wrap .i64 (4 * (IntKind.wrap .i64 (x_6 + 1)))) else 8) (if (IntKind.wrap .i64 (4 * (IntKind.wrap .i64 (x_6 + 1)))) > 8 then (IntKind.wrap .i64 (4 * (IntKind.wrap .i64 (x_6 + 1)))) else 8) fun s_7=>
 nilck x0 fun b_8 o_9=>
 st b_8 (o_9 + 1) (.slice s_7.a s_7.n s_7.c) <|
 nilck x0 fun b_10 o_11=>
 st b_10 (o_11 + 2) (.int .i64 0) <|
 nilck x0 fun b_12 o_13=>
 st b_12 (o_13 + 3) (.int .i64 0) <|
 exM fun m=>f144_l1 jn Q  m x0 x_3 (x_3.n:Int) 0):=by kernel_rfl
theorem f144_ok:FnOk Tryz.prog 144 Tryz.f144:=⟨mixed,Tryz.func144,rfl⟩
def f145_kp:KP:=⟨[(7,[0,1,5]),(14,[])],[]⟩
noncomputable def f145_b (l:List Nat):Code:=cAtN l (bodyOf Tryz.f145)
def f145_r (Q:Value -> WP):Env -> WP:=retK Tryz.prog Tryz.f145 Q
def f145_e1 (jn:Jn) (Q:Value -> WP):Env -> WP:=seqK Tryz.prog f145_kp jn (f145_b [1,1]) (f145_r Q) noX (f145_r Q)
def f145_j2_c (jn:Jn) (Q:Value -> WP):Env -> WP:=codeI Tryz.prog f145_kp jn (f145_b [1,1]) (f145_r Q) noX (f145_r Q)
def f145_j2 (jn:Jn) (Q:Value -> WP):WP:=jn 14 (f145_j2_c jn Q ) (us 24 [])
def f145_l1 (jn:Jn) (Q:Value -> WP) (m1:Nat) (g0:Option Addr) (key1:ByteArray) (i5:Int):WP:=lop Tryz.prog f145_kp jn (f145_b [1,0,1,0,0]) (blkX 0 (f145_e1 jn Q) noX) (f145_r Q) m1 ((.pointer g0)::(.string key1)::us 3 ((.int .i64 i5)::us 18 []))
theorem f145_j2_raw {jn:Jn} {Q:Value -> WP}:f145_j2_c jn Q  (us 24 []) = (
 Q (.bool false)):=by kernel_rfl
theorem f145_l1_raw {jn:Jn} {Q:Value -> WP} {m1:Nat} {g0:Option Addr} {key1:ByteArray} {i5:Int}:f145_l1 jn Q  (m1 + 1) g0 key1 i5 = (
 nilck g0 fun b_1 o_2=>
 ld .slc b_1 o_2 fun (x_3:Sl)=>
 ite2 (decide (i5 < (x_3.n:Int))) (
 nilck g0 fun b_4 o_5=>
 ld .slc b_4 o_5 fun (x_6:Sl)=>
 idx x_6.a x_6.n i5 fun b_7 o_8=>
 ld .str b_7 (o_8 + (i5).toNat * 1) fun (x_9:ByteArray)=>
 ite2 (sEq x_9 key1) (
 Q (.bool true)) (
 f145_l1 jn Q  m1 g0 key1 (IntKind.wrap .i64 (i5 + 1)))) (
 f145_j2 jn Q  )):=by kernel_rfl
theorem f145_raw {jn:Jn} {g0:Option Addr} {key1:ByteArray} {Q:Value -> WP}:funJ jn Tryz.prog f145_kp Tryz.f145 [.pointer g0,.string key1] Q = (
 exM fun m=>f145_l1 jn Q  m g0 key1 0):=by kernel_rfl
theorem f145_ok:FnOk Tryz.prog 145 Tryz.f145:=⟨mixed,Tryz.func145,rfl⟩
def f146_kp:KP:=⟨[],[(3,[0,1,2,3,4,5,6,8,9,10,11,12,14,15,17,18])]⟩
theorem f146_raw {jn:Jn} {e0:Option Addr} {key1:ByteArray} {Q:Value -> WP}:funJ jn Tryz.prog f146_kp Tryz.f146 [.pointer e0,.string key1] Q = (
 call1 .bool Tryz.prog 151 [.pointer e0,.string key1] fun (x_1:Bool)=>
 ite2 (!x_1) (
 Q (.bool false)) (
 drawW fun S=>
 nilck e0 fun b_2 o_3=>
 ldS S .slc b_2 o_3 fun (x_4:Sl)=>
 nilck e0 fun b_5 o_6=>
 ldS S .slc b_5 (o_6 + 1) fun (x_7:Sl)=>
 call1 .slc Tryz.prog 175 [.slice x_4.a x_4.n x_4.c,.string key1] fun (x_8:Sl)=>
 keepS true S <|
 call1 .slc Tryz.prog 175 [.slice x_7.a x_7.n x_7.c,.string key1] fun (x_9:Sl)=>
 nilck e0 fun b_10 o_11=>
 st b_10 o_11 (.slice x_8.a x_8.n x_8.c) <|
 nilck e0 fun b_12 o_13=>
 st b_12 (o_13 + 1) (.slice x_9.a x_9.n x_9.c) <|
 Q (.bool true))):=by kernel_rfl
theorem f146_ok:FnOk Tryz.prog 146 Tryz.f146:=⟨mixed,Tryz.func146,rfl⟩
def f147_kp:KP:=⟨[],[]⟩
theorem f147_raw {jn:Jn} {e0:Option Addr} {key1:ByteArray} {Q:Value -> WP}:funJ jn Tryz.prog f147_kp Tryz.f147 [.pointer e0,.string key1] Q = (
 call1 .bool Tryz.prog 152 [.pointer e0,.string key1] fun (x_1:Bool)=>
 ite2 (!x_1) (
 Q (.bool false)) (
 call0 Tryz.prog 205 [.pointer e0,.string key1] <|
 call0 Tryz.prog 165 [.pointer e0,.string key1] <|
 call0 Tryz.prog 184 [.pointer e0] <|
 Q (.bool true))):=by kernel_rfl
theorem f147_ok:FnOk Tryz.prog 147 Tryz.f147:=⟨mixed,Tryz.func147,rfl⟩
def f148_kp:KP:=⟨[],[(3,[0,1,2,3,4,5,6,8,9,10,11,12,14,15,17,18])]⟩
theorem f148_raw {jn:Jn} {e0:Option Addr} {key1:ByteArray} {Q:Value -> WP}:funJ jn Tryz.prog f148_kp Tryz.f148 [.pointer e0,.string key1] Q = (
 call1 .bool Tryz.prog 153 [.pointer e0,.string key1] fun (x_1:Bool)=>
 ite2 (!x_1) (
 Q (.bool false)) (
 drawW fun S=>
 nilck e0 fun b_2 o_3=>
 ldS S .slc b_2 o_3 fun (x_4:Sl)=>
 nilck e0 fun b_5 o_6=>
 ldS S .slc b_5 (o_6 + 2) fun (x_7:Sl)=>
 call1 .slc Tryz.prog 169 [.slice x_4.a x_4.n x_4.c,.string key1] fun (x_8:Sl)=>
 keepS true S <|
 call1 .slc Tryz.prog 169 [.slice x_7.a x_7.n x_7.c,.string key1] fun (x_9:Sl)=>
 nilck e0 fun b_10 o_11=>
 st b_10 o_11 (.slice x_8.a x_8.n x_8.c) <|
 nilck e0 fun b_12 o_13=>
 st b_12 (o_13 + 2) (.slice x_9.a x_9.n x_9.c) <|
 Q (.bool true))):=by kernel_rfl
theorem f148_ok:FnOk Tryz.prog 148 Tryz.f148:=⟨mixed,Tryz.func148,rfl⟩
def f149_kp:KP:=⟨[],[(3,[0,1,2,3,4,5,6,7,9,10,11,12,13,15,16,17,18,19,21,22,24,25,27,28])]⟩
theorem f149_raw {jn:Jn} {e0:Option Addr} {key1:ByteArray} {Q:Value -> WP}:funJ jn Tryz.prog f149_kp Tryz.f149 [.pointer e0,.string key1] Q = (
 call1 .bool Tryz.prog 154 [.pointer e0,.string key1] fun (x_1:Bool)=>
 ite2 (!x_1) (
 Q (.bool false)) (
 drawW fun S=>
 nilck e0 fun b_2 o_3=>
 ldS S .slc b_2 o_3 fun (x_4:Sl)=>
 nilck e0 fun b_5 o_6=>
 ldS S .slc b_5 (o_6 + 1) fun (x_7:Sl)=>
 nilck e0 fun b_8 o_9=>
 ldS S .slc b_8 (o_9 + 2) fun (x_10:Sl)=>
 call1 .slc Tryz.prog 189 [.slice x_4.a x_4.n x_4.c,.string key1] fun (x_11:Sl)=>
 keepS true S <|
 call1 .slc Tryz.prog 189 [.slice x_7.a x_7.n x_7.c,.string key1] fun (x_12:Sl)=>
 keepS true S <|
 call1 .slc Tryz.prog 189 [.slice x_10.a x_10.n x_10.c,.string key1] fun (x_13:Sl)=>
 nilck e0 fun b_14 o_15=>
 st b_14 o_15 (.slice x_11.a x_11.n x_11.c) <|
 nilck e0 fun b_16 o_17=>
 st b_16 (o_17 + 1) (.slice x_12.a x_12.n x_12.c) <|
 nilck e0 fun b_18 o_19=>
 st b_18 (o_19 + 2) (.slice x_13.a x_13.n x_13.c) <|
 Q (.bool true))):=by kernel_rfl
theorem f149_ok:FnOk Tryz.prog 149 Tryz.f149:=⟨mixed,Tryz.func149,rfl⟩
def f150_kp:KP:=⟨[(10,[0,5,6]),(14,[5,6])],[(1,[0,1,2,3,4,6,7,8,9,10,12,13])]⟩
noncomputable def f150_b (l:List Nat):Code:=cAtN l (bodyOf Tryz.f150)
def f150_r (Q:Value -> WP):Env -> WP:=retK Tryz.prog Tryz.f150 Q
def f150_j2_c (jn:Jn) (Q:Value -> WP):Env -> WP:=codeI Tryz.prog f150_kp jn (f150_b [1,1,1,1]) (f150_r Q) noX (f150_r Q)
def f150_j2 (jn:Jn) (Q:Value -> WP) (i5 k6:Int):WP:=jn 14 (f150_j2_c jn Q ) (us 5 ((.int .i64 i5)::(.int .i64 k6)::us 40 []))
def f150_j1_c (jn:Jn) (Q:Value -> WP):Env -> WP:=codeI Tryz.prog f150_kp jn (f150_b [1,1,1]) (f150_r Q) noX (f150_r Q)
def f150_j1 (jn:Jn) (Q:Value -> WP) (e0:Option Addr) (i5 k6:Int):WP:=jn 10 (f150_j1_c jn Q ) ((.pointer e0)::us 4 ((.int .i64 i5)::(.int .i64 k6)::us 40 []))
theorem f150_j2_raw {jn:Jn} {Q:Value -> WP} {i5 k6:Int}:f150_j2_c jn Q  (us 5 ((.int .i64 i5)::(.int .i64 k6)::us 40 [])) = (
 ite2 (decide (i5 >= 0)) (
 Q (.bool true)) (
 Q (.bool (decide (k6 >= 0))))):=by kernel_rfl
theorem f150_j1_raw {jn:Jn} {Q:Value -> WP} {e0:Option Addr} {i5 k6:Int}:f150_j1_c jn Q  ((.pointer e0)::us 4 ((.int .i64 i5)::(.int .i64 k6)::us 40 [])) = (
 ite2 (decide (k6 >= 0)) (
 nilck e0 fun b_15 o_16=>
 ld .slc b_15 (o_16 + 1) fun (x_17:Sl)=>
 call1 .slc Tryz.prog 172 [.slice x_17.a x_17.n x_17.c,.int .i64 k6] fun (x_18:Sl)=>
 nilck e0 fun b_19 o_20=>
 st b_19 (o_20 + 1) (.slice x_18.a x_18.n x_18.c) <|
 f150_j2 jn Q  i5 k6) (
 f150_j2 jn Q  i5 k6)):=by kernel_rfl
theorem f150_raw {jn:Jn} {e0:Option Addr} {key1:ByteArray} {Q:Value -> WP}:funJ jn Tryz.prog f150_kp Tryz.f150 [.pointer e0,.string key1] Q = (
 drawW fun S=>
 nilck e0 fun b_1 o_2=>
 ldS S .slc b_1 o_2 fun (x_3:Sl)=>
 nilck e0 fun b_4 o_5=>
 ldS S .slc b_4 (o_5 + 1) fun (x_6:Sl)=>
 call1 (.int .i64) Tryz.prog 193 [.slice x_3.a x_3.n x_3.c,.string key1] fun (x_7:Int)=>
 keepS true S <|
 call1 (.int .i64) Tryz.prog 193 [.slice x_6.a x_6.n x_6.c,.string key1] fun (x_8:Int)=>
 ite2 (decide (x_7 >= 0)) (
 nilck e0 fun b_9 o_10=>
 ld .slc b_9 o_10 fun (x_11:Sl)=>
 call1 .slc Tryz.prog 172 [.slice x_11.a x_11.n x_11.c,.int .i64 x_7] fun (x_12:Sl)=>
 nilck e0 fun b_13 o_14=>
 st b_13 o_14 (.slice x_12.a x_12.n x_12.c) <|
 f150_j1 jn Q  e0 x_7 x_8) (
 f150_j1 jn Q  e0 x_7 x_8)):=by kernel_rfl
theorem f150_ok:FnOk Tryz.prog 150 Tryz.f150:=⟨mixed,Tryz.func150,rfl⟩
def f151_kp:KP:=⟨[],[]⟩
theorem f151_raw {jn:Jn} {e0:Option Addr} {key1:ByteArray} {Q:Value -> WP}:funJ jn Tryz.prog f151_kp Tryz.f151 [.pointer e0,.string key1] Q = (
 nilck e0 fun b_1 o_2=>
 ld .slc b_1 o_2 fun (x_3:Sl)=>
 call1 (.int .i64) Tryz.prog 176 [.slice x_3.a x_3.n x_3.c,.string key1] fun (x_4:Int)=>
 ite2 (decide (x_4 >= 0)) (
 Q (.bool true)) (
 nilck e0 fun b_5 o_6=>
 ld .slc b_5 (o_6 + 1) fun (x_7:Sl)=>
 call1 (.int .i64) Tryz.prog 176 [.slice x_7.a x_7.n x_7.c,.string key1] fun (x_8:Int)=>
 Q (.bool (decide (x_8 >= 0))))):=by kernel_rfl
theorem f151_ok:FnOk Tryz.prog 151 Tryz.f151:=⟨mixed,Tryz.func151,rfl⟩
def f152_kp:KP:=⟨[],[]⟩
theorem f152_raw {jn:Jn} {e0:Option Addr} {key1:ByteArray} {Q:Value -> WP}:funJ jn Tryz.prog f152_kp Tryz.f152 [.pointer e0,.string key1] Q = (
 call1 (.int .u8) Tryz.prog 179 [.pointer e0,.string key1] fun (x_1:Int)=>
 ite2 (x_1 == 104) (
 Q (.bool true)) (
 call1 .bool Tryz.prog 206 [.pointer e0,.string key1] fun (x_2:Bool)=>
 Q (.bool x_2))):=by kernel_rfl
theorem f152_ok:FnOk Tryz.prog 152 Tryz.f152:=⟨mixed,Tryz.func152,rfl⟩
def f153_kp:KP:=⟨[],[]⟩
theorem f153_raw {jn:Jn} {e0:Option Addr} {key1:ByteArray} {Q:Value -> WP}:funJ jn Tryz.prog f153_kp Tryz.f153 [.pointer e0,.string key1] Q = (
 nilck e0 fun b_1 o_2=>
 ld .slc b_1 o_2 fun (x_3:Sl)=>
 call1 (.int .i64) Tryz.prog 185 [.slice x_3.a x_3.n x_3.c,.string key1] fun (x_4:Int)=>
 ite2 (decide (x_4 >= 0)) (
 Q (.bool true)) (
 nilck e0 fun b_5 o_6=>
 ld .slc b_5 (o_6 + 2) fun (x_7:Sl)=>
 call1 (.int .i64) Tryz.prog 185 [.slice x_7.a x_7.n x_7.c,.string key1] fun (x_8:Int)=>
 Q (.bool (decide (x_8 >= 0))))):=by kernel_rfl
theorem f153_ok:FnOk Tryz.prog 153 Tryz.f153:=⟨mixed,Tryz.func153,rfl⟩
def f154_kp:KP:=⟨[],[]⟩
theorem f154_raw {jn:Jn} {e0:Option Addr} {key1:ByteArray} {Q:Value -> WP}:funJ jn Tryz.prog f154_kp Tryz.f154 [.pointer e0,.string key1] Q = (
 nilck e0 fun b_1 o_2=>
 ld .slc b_1 o_2 fun (x_3:Sl)=>
 call1 (.int .i64) Tryz.prog 188 [.slice x_3.a x_3.n x_3.c,.string key1] fun (x_4:Int)=>
 ite2 (decide (x_4 >= 0)) (
 Q (.bool true)) (
 nilck e0 fun b_5 o_6=>
 ld .slc b_5 (o_6 + 1) fun (x_7:Sl)=>
 call1 (.int .i64) Tryz.prog 188 [.slice x_7.a x_7.n x_7.c,.string key1] fun (x_8:Int)=>
 ite2 (decide (x_8 >= 0)) (
 Q (.bool true)) (
 nilck e0 fun b_9 o_10=>
 ld .slc b_9 (o_10 + 2) fun (x_11:Sl)=>
 call1 (.int .i64) Tryz.prog 188 [.slice x_11.a x_11.n x_11.c,.string key1] fun (x_12:Int)=>
 Q (.bool (decide (x_12 >= 0)))))):=by kernel_rfl
theorem f154_ok:FnOk Tryz.prog 154 Tryz.f154:=⟨mixed,Tryz.func154,rfl⟩
def f155_kp:KP:=⟨[],[]⟩
theorem f155_raw {jn:Jn} {e0:Option Addr} {key1:ByteArray} {Q:Value -> WP}:funJ jn Tryz.prog f155_kp Tryz.f155 [.pointer e0,.string key1] Q = (
 nilck e0 fun b_1 o_2=>
 ld .slc b_1 o_2 fun (x_3:Sl)=>
 call1 (.int .i64) Tryz.prog 193 [.slice x_3.a x_3.n x_3.c,.string key1] fun (x_4:Int)=>
 ite2 (decide (x_4 >= 0)) (
 Q (.bool true)) (
 nilck e0 fun b_5 o_6=>
 ld .slc b_5 (o_6 + 1) fun (x_7:Sl)=>
 call1 (.int .i64) Tryz.prog 193 [.slice x_7.a x_7.n x_7.c,.string key1] fun (x_8:Int)=>
 Q (.bool (decide (x_8 >= 0))))):=by kernel_rfl
theorem f155_ok:FnOk Tryz.prog 155 Tryz.f155:=⟨mixed,Tryz.func155,rfl⟩
def f156_kp:KP:=⟨[(8,[0,1]),(13,[0]),(16,[0]),(17,[0]),(20,[])],[(1,[0,1,3,4,6,7,8,9,10,11]),(3,[0,1,2,3,4,5,6,8,9,10,11,12,14,15,17,18]),(5,[0,1,2,3,4,5,6,7,8,9,10,11,12,13,15]),(7,[0,2,3,4,5,6,7,8,9,10,11,12,13,14,15,16,17,18,19])]⟩
noncomputable def f156_b (l:List Nat):Code:=cAtN l (bodyOf Tryz.f156)
def f156_r (Q:Value -> WP):Env -> WP:=retK Tryz.prog Tryz.f156 Q
def f156_e6 (jn:Jn) (Q:Value -> WP):Env -> WP:=seqK Tryz.prog f156_kp jn (f156_b [1,1,1,1,1]) (f156_r Q) noX (f156_r Q)
def f156_e11 (jn:Jn) (Q:Value -> WP):Env -> WP:=seqK Tryz.prog f156_kp jn (f156_b [1,1,1,1,1,1]) (f156_r Q) noX (f156_r Q)
def f156_j5_c (jn:Jn) (Q:Value -> WP):Env -> WP:=codeI Tryz.prog f156_kp jn (f156_b [1,1,1,1,1,1]) (f156_r Q) noX (f156_r Q)
def f156_j5 (jn:Jn) (Q:Value -> WP):WP:=jn 20 (f156_j5_c jn Q ) (us 99 [])
def f156_l4 (jn:Jn) (Q:Value -> WP) (m4:Nat) (e0:Option Addr):WP:=lop Tryz.prog f156_kp jn (f156_b [1,1,1,1,1,0,0,0]) (blkX 2 (f156_e11 jn Q) noX) (f156_r Q) m4 ((.pointer e0)::us 98 [])
def f156_j3_c (jn:Jn) (Q:Value -> WP):Env -> WP:=codeI Tryz.prog f156_kp jn (f156_b [1,1,1,1,1]) (f156_r Q) noX (f156_r Q)
def f156_j3 (jn:Jn) (Q:Value -> WP) (e0:Option Addr):WP:=jn 16 (f156_j3_c jn Q ) ((.pointer e0)::us 98 [])
def f156_l2 (jn:Jn) (Q:Value -> WP) (m2:Nat) (e0:Option Addr):WP:=lop Tryz.prog f156_kp jn (f156_b [1,1,1,1,0,0,0]) (blkX 0 (f156_e6 jn Q) noX) (f156_r Q) m2 ((.pointer e0)::us 98 [])
def f156_j1_c (jn:Jn) (Q:Value -> WP):Env -> WP:=codeI Tryz.prog f156_kp jn (f156_b [1,1]) (f156_r Q) noX (f156_r Q)
def f156_j1 (jn:Jn) (Q:Value -> WP) (e0:Option Addr) (key1:ByteArray):WP:=jn 8 (f156_j1_c jn Q ) ((.pointer e0)::(.string key1)::us 97 [])
theorem f156_j5_raw {jn:Jn} {Q:Value -> WP}:f156_j5_c jn Q  (us 99 []) = (
 Q (.bool true)):=by kernel_rfl
theorem f156_l4_raw {jn:Jn} {Q:Value -> WP} {m4:Nat} {e0:Option Addr}:f156_l4 jn Q  (m4 + 1) e0 = (
 drawW fun S=>
 nilck e0 fun b_41 o_42=>
 ldS S .slc b_41 (o_42 + 2) fun (x_43:Sl)=>
 nilck e0 fun b_44 o_45=>
 ldS S .slc b_44 (o_45 + 3) fun (x_46:Sl)=>
 nilck e0 fun b_47 o_48=>
 ldS S (.int .i64) b_47 (o_48 + 5) fun (x_49:Int)=>
 call1 (.int .i64) Tryz.prog 161 [.pointer e0] fun (x_50:Int)=>
 keepS true S <|
 ite2 (decide ((IntKind.wrap .i64 ((IntKind.wrap .i64 (x_50 + (x_43.n:Int))) + (x_46.n:Int))) > (IntKind.wrap .i64 (2 * x_49)))) (
 nilck e0 fun b_51 o_52=>
 ld .slc b_51 (o_52 + 3) fun (x_53:Sl)=>
 when ((0:Int) <= (1:Int) /\ (1:Int) <= (x_53.n:Int)) <|
 nilck e0 fun b_54 o_55=>
 st b_54 (o_55 + 3) (.slice (subA x_53.a (((1:Int)).toNat) x_53.c 1) (x_53.n - ((1:Int)).toNat) (x_53.c - ((1:Int)).toNat)) <|
 f156_l4 jn Q  m4 e0) (
 f156_j5 jn Q  )):=by kernel_rfl
theorem f156_j3_raw {jn:Jn} {Q:Value -> WP} {e0:Option Addr}:f156_j3_c jn Q  ((.pointer e0)::us 98 []) = (
 exM fun m=>f156_l4 jn Q  m e0):=by kernel_rfl
theorem f156_l2_raw {jn:Jn} {Q:Value -> WP} {m2:Nat} {e0:Option Addr}:f156_l2 jn Q  (m2 + 1) e0 = (
 drawW fun S=>
 nilck e0 fun b_27 o_28=>
 ldS S .slc b_27 o_28 fun (x_29:Sl)=>
 nilck e0 fun b_30 o_31=>
 ldS S .slc b_30 (o_31 + 2) fun (x_32:Sl)=>
 nilck e0 fun b_33 o_34=>
 ld (.int .i64) b_33 (o_34 + 5) fun (x_35:Int)=>
 keepS true S <|
 ite2 (decide ((IntKind.wrap .i64 ((x_29.n:Int) + (x_32.n:Int))) > x_35)) (
 nilck e0 fun b_36 o_37=>
 ld .slc b_36 (o_37 + 2) fun (x_38:Sl)=>
 when ((0:Int) <= (1:Int) /\ (1:Int) <= (x_38.n:Int)) <|
 nilck e0 fun b_39 o_40=>
 st b_39 (o_40 + 2) (.slice (subA x_38.a (((1:Int)).toNat) x_38.c 1) (x_38.n - ((1:Int)).toNat) (x_38.c - ((1:Int)).toNat)) <|
 f156_l2 jn Q  m2 e0) (
 f156_j3 jn Q  e0)):=by kernel_rfl
theorem f156_j1_raw {jn:Jn} {Q:Value -> WP} {e0:Option Addr} {key1:ByteArray}:f156_j1_c jn Q  ((.pointer e0)::(.string key1)::us 97 []) = (
 drawW fun S=>
 nilck e0 fun b_6 o_7=>
 ldS S .slc b_6 (o_7 + 2) fun (x_8:Sl)=>
 nilck e0 fun b_9 o_10=>
 ldS S .slc b_9 (o_10 + 3) fun (x_11:Sl)=>
 call1 .slc Tryz.prog 175 [.slice x_8.a x_8.n x_8.c,.string key1] fun (x_12:Sl)=>
 keepS true S <|
 call1 .slc Tryz.prog 175 [.slice x_11.a x_11.n x_11.c,.string key1] fun (x_13:Sl)=>
 nilck e0 fun b_14 o_15=>
 st b_14 (o_15 + 2) (.slice x_12.a x_12.n x_12.c) <|
 nilck e0 fun b_16 o_17=>
 st b_16 (o_17 + 3) (.slice x_13.a x_13.n x_13.c) <|
 newB [] 9 fun b_18=>
 nilck e0 fun b_19 o_20=>
 ld .slc b_19 o_20 fun (x_21:Sl)=>
 appendC 9 1 16 [.string str_empty] ⟨(some ⟨b_18,0,none⟩),0,0⟩ x_21.n (fun w=>rdA w x_21.a (x_21.n * 1)) fun s_22=>
 newB [.string key1] 9 fun b_23=>
 appendC 9 1 16 [.string str_empty] ⟨s_22.a,s_22.n,s_22.c⟩ 1 (fun w=>rdA w (some ⟨b_23,0,none⟩) (1 * 1)) fun s_24=>
 nilck e0 fun b_25 o_26=>
 st b_25 o_26 (.slice s_24.a s_24.n s_24.c) <|
 exM fun m=>f156_l2 jn Q  m e0):=by kernel_rfl
theorem f156_raw {jn:Jn} {e0:Option Addr} {key1:ByteArray} {Q:Value -> WP}:funJ jn Tryz.prog f156_kp Tryz.f156 [.pointer e0,.string key1] Q = (
 drawW fun S=>
 call1 .bool Tryz.prog 151 [.pointer e0,.string key1] fun (x_1:Bool)=>
 keepS true S <|
 ite2 x_1 (
 keepS true S <|
 Q (.bool false)) (
 nilck e0 fun b_2 o_3=>
 ldS S (.int .i64) b_2 (o_3 + 5) fun (x_4:Int)=>
 call1 (.int .i64) Tryz.prog 161 [.pointer e0] fun (x_5:Int)=>
 keepS true S <|
 ite2 (decide (x_5 >= x_4)) (
 Q (.bool false)) (
 f156_j1 jn Q  e0 key1))):=by kernel_rfl
theorem f156_ok:FnOk Tryz.prog 156 Tryz.f156:=⟨mixed,Tryz.func156,rfl⟩
def f157_kp:KP:=⟨[(8,[0,1])],[(1,[0,1,3,4,6,7,8,9,10,11])]⟩
noncomputable def f157_b (l:List Nat):Code:=cAtN l (bodyOf Tryz.f157)
def f157_r (Q:Value -> WP):Env -> WP:=retK Tryz.prog Tryz.f157 Q
def f157_j1_c (jn:Jn) (Q:Value -> WP):Env -> WP:=codeI Tryz.prog f157_kp jn (f157_b [1,1]) (f157_r Q) noX (f157_r Q)
def f157_j1 (jn:Jn) (Q:Value -> WP) (e0:Option Addr) (key1:ByteArray):WP:=jn 8 (f157_j1_c jn Q ) ((.pointer e0)::(.string key1)::us 38 [])
theorem f157_j1_raw {jn:Jn} {Q:Value -> WP} {e0:Option Addr} {key1:ByteArray}:f157_j1_c jn Q  ((.pointer e0)::(.string key1)::us 38 []) = (
 call1 (.int .i64) Tryz.prog 182 [.pointer e0,.int .u8 104] fun (x_6:Int)=>
 call1 (.int .i64) Tryz.prog 183 [.pointer e0] fun (x_7:Int)=>
 ite2 (decide (x_6 < x_7)) (
 call0 Tryz.prog 180 [.pointer e0,.string key1,.int .u8 104] <|
 call0 Tryz.prog 184 [.pointer e0] <|
 Q (.bool true)) (
 call0 Tryz.prog 180 [.pointer e0,.string key1,.int .u8 99] <|
 nilck e0 fun b_8 o_9=>
 ld .slc b_8 (o_9 + 1) fun (x_10:Sl)=>
 newB [.string key1] 9 fun b_11=>
 appendC 9 1 16 [.string str_empty] ⟨x_10.a,x_10.n,x_10.c⟩ 1 (fun w=>rdA w (some ⟨b_11,0,none⟩) (1 * 1)) fun s_12=>
 nilck e0 fun b_13 o_14=>
 st b_13 (o_14 + 1) (.slice s_12.a s_12.n s_12.c) <|
 call0 Tryz.prog 184 [.pointer e0] <|
 Q (.bool true))):=by kernel_rfl
theorem f157_raw {jn:Jn} {e0:Option Addr} {key1:ByteArray} {Q:Value -> WP}:funJ jn Tryz.prog f157_kp Tryz.f157 [.pointer e0,.string key1] Q = (
 drawW fun S=>
 call1 .bool Tryz.prog 152 [.pointer e0,.string key1] fun (x_1:Bool)=>
 keepS true S <|
 ite2 x_1 (
 keepS true S <|
 Q (.bool false)) (
 nilck e0 fun b_2 o_3=>
 ldS S (.int .i64) b_2 (o_3 + 2) fun (x_4:Int)=>
 call1 (.int .i64) Tryz.prog 163 [.pointer e0] fun (x_5:Int)=>
 keepS true S <|
 ite2 (decide (x_5 >= x_4)) (
 Q (.bool false)) (
 f157_j1 jn Q  e0 key1))):=by kernel_rfl
theorem f157_ok:FnOk Tryz.prog 157 Tryz.f157:=⟨mixed,Tryz.func157,rfl⟩
def f158_kp:KP:=⟨[(8,[0,1])],[(1,[0,1,3,4,6,7,8,9,10,11])]⟩
noncomputable def f158_b (l:List Nat):Code:=cAtN l (bodyOf Tryz.f158)
def f158_r (Q:Value -> WP):Env -> WP:=retK Tryz.prog Tryz.f158 Q
def f158_j1_c (jn:Jn) (Q:Value -> WP):Env -> WP:=codeI Tryz.prog f158_kp jn (f158_b [1,1]) (f158_r Q) noX (f158_r Q)
def f158_j1 (jn:Jn) (Q:Value -> WP) (e0:Option Addr) (key1:ByteArray):WP:=jn 8 (f158_j1_c jn Q ) ((.pointer e0)::(.string key1)::us 34 [])
theorem f158_j1_raw {jn:Jn} {Q:Value -> WP} {e0:Option Addr} {key1:ByteArray}:f158_j1_c jn Q  ((.pointer e0)::(.string key1)::us 34 []) = (
 nilck e0 fun b_6 o_7=>
 ld .slc b_6 (o_7 + 1) fun (x_8:Sl)=>
 call1 .slc Tryz.prog 169 [.slice x_8.a x_8.n x_8.c,.string key1] fun (x_9:Sl)=>
 nilck e0 fun b_10 o_11=>
 st b_10 (o_11 + 1) (.slice x_9.a x_9.n x_9.c) <|
 nilck e0 fun b_12 o_13=>
 ld .slc b_12 (o_13 + 2) fun (x_14:Sl)=>
 newB [.string key1] 9 fun b_15=>
 appendC 9 1 16 [.string str_empty] ⟨x_14.a,x_14.n,x_14.c⟩ 1 (fun w=>rdA w (some ⟨b_15,0,none⟩) (1 * 1)) fun s_16=>
 nilck e0 fun b_17 o_18=>
 st b_17 (o_18 + 2) (.slice s_16.a s_16.n s_16.c) <|
 Q (.bool true)):=by kernel_rfl
theorem f158_raw {jn:Jn} {e0:Option Addr} {key1:ByteArray} {Q:Value -> WP}:funJ jn Tryz.prog f158_kp Tryz.f158 [.pointer e0,.string key1] Q = (
 drawW fun S=>
 call1 .bool Tryz.prog 153 [.pointer e0,.string key1] fun (x_1:Bool)=>
 keepS true S <|
 ite2 x_1 (
 keepS true S <|
 Q (.bool false)) (
 nilck e0 fun b_2 o_3=>
 ldS S (.int .i64) b_2 (o_3 + 3) fun (x_4:Int)=>
 call1 (.int .i64) Tryz.prog 168 [.pointer e0] fun (x_5:Int)=>
 keepS true S <|
 ite2 (decide (x_5 >= x_4)) (
 Q (.bool false)) (
 f158_j1 jn Q  e0 key1))):=by kernel_rfl
theorem f158_ok:FnOk Tryz.prog 158 Tryz.f158:=⟨mixed,Tryz.func158,rfl⟩
def f159_kp:KP:=⟨[(8,[0,1])],[(1,[0,1,3,4,6,7,8,9,10,11]),(3,[0,1,2,3,4,5,6,7,8,9,10,11,13])]⟩
noncomputable def f159_b (l:List Nat):Code:=cAtN l (bodyOf Tryz.f159)
def f159_r (Q:Value -> WP):Env -> WP:=retK Tryz.prog Tryz.f159 Q
def f159_j1_c (jn:Jn) (Q:Value -> WP):Env -> WP:=codeI Tryz.prog f159_kp jn (f159_b [1,1]) (f159_r Q) noX (f159_r Q)
def f159_j1 (jn:Jn) (Q:Value -> WP) (e0:Option Addr) (key1:ByteArray):WP:=jn 8 (f159_j1_c jn Q ) ((.pointer e0)::(.string key1)::us 49 [])
theorem f159_j1_raw {jn:Jn} {Q:Value -> WP} {e0:Option Addr} {key1:ByteArray}:f159_j1_c jn Q  ((.pointer e0)::(.string key1)::us 49 []) = (
 drawW fun S=>
 nilck e0 fun b_6 o_7=>
 ldS S .slc b_6 (o_7 + 1) fun (x_8:Sl)=>
 nilck e0 fun b_9 o_10=>
 ldS S .slc b_9 (o_10 + 2) fun (x_11:Sl)=>
 call1 (.int .i64) Tryz.prog 208 [.pointer e0] fun (x_12:Int)=>
 keepS true S <|
 ite2 (decide ((IntKind.wrap .i64 ((x_8.n:Int) + (x_11.n:Int))) < x_12)) (
 nilck e0 fun b_13 o_14=>
 ld .slc b_13 (o_14 + 1) fun (x_15:Sl)=>
 newB [.string key1] 9 fun b_16=>
 appendC 9 1 16 [.string str_empty] ⟨x_15.a,x_15.n,x_15.c⟩ 1 (fun w=>rdA w (some ⟨b_16,0,none⟩) (1 * 1)) fun s_17=>
 nilck e0 fun b_18 o_19=>
 st b_18 (o_19 + 1) (.slice s_17.a s_17.n s_17.c) <|
 Q (.bool true)) (
 nilck e0 fun b_20 o_21=>
 ld .slc b_20 o_21 fun (x_22:Sl)=>
 newB [.string key1] 9 fun b_23=>
 appendC 9 1 16 [.string str_empty] ⟨x_22.a,x_22.n,x_22.c⟩ 1 (fun w=>rdA w (some ⟨b_23,0,none⟩) (1 * 1)) fun s_24=>
 nilck e0 fun b_25 o_26=>
 st b_25 o_26 (.slice s_24.a s_24.n s_24.c) <|
 Q (.bool true))):=by kernel_rfl
theorem f159_raw {jn:Jn} {e0:Option Addr} {key1:ByteArray} {Q:Value -> WP}:funJ jn Tryz.prog f159_kp Tryz.f159 [.pointer e0,.string key1] Q = (
 drawW fun S=>
 call1 .bool Tryz.prog 154 [.pointer e0,.string key1] fun (x_1:Bool)=>
 keepS true S <|
 ite2 x_1 (
 keepS true S <|
 Q (.bool false)) (
 nilck e0 fun b_2 o_3=>
 ldS S (.int .i64) b_2 (o_3 + 5) fun (x_4:Int)=>
 call1 (.int .i64) Tryz.prog 207 [.pointer e0] fun (x_5:Int)=>
 keepS true S <|
 ite2 (decide (x_5 >= x_4)) (
 Q (.bool false)) (
 f159_j1 jn Q  e0 key1))):=by kernel_rfl
theorem f159_ok:FnOk Tryz.prog 159 Tryz.f159:=⟨mixed,Tryz.func159,rfl⟩
def f160_kp:KP:=⟨[(8,[0,1])],[(1,[0,1,3,4,6,7,8,9,10,11])]⟩
noncomputable def f160_b (l:List Nat):Code:=cAtN l (bodyOf Tryz.f160)
def f160_r (Q:Value -> WP):Env -> WP:=retK Tryz.prog Tryz.f160 Q
def f160_j1_c (jn:Jn) (Q:Value -> WP):Env -> WP:=codeI Tryz.prog f160_kp jn (f160_b [1,1]) (f160_r Q) noX (f160_r Q)
def f160_j1 (jn:Jn) (Q:Value -> WP) (e0:Option Addr) (key1:ByteArray):WP:=jn 8 (f160_j1_c jn Q ) ((.pointer e0)::(.string key1)::us 29 [])
theorem f160_j1_raw {jn:Jn} {Q:Value -> WP} {e0:Option Addr} {key1:ByteArray}:f160_j1_c jn Q  ((.pointer e0)::(.string key1)::us 29 []) = (
 call1 .bool Tryz.prog 194 [.pointer e0,.string key1] fun (x_6:Bool)=>
 nilck e0 fun b_7 o_8=>
 ld .slc b_7 (o_8 + 1) fun (x_9:Sl)=>
 newB [.string key1,.int .i64 0] 230 fun b_10=>
 appendC 230 2 24 [.string str_empty,.int .i64 0] ⟨x_9.a,x_9.n,x_9.c⟩ 1 (fun w=>rdA w (some ⟨b_10,0,none⟩) (1 * 2)) fun s_11=>
 nilck e0 fun b_12 o_13=>
 st b_12 (o_13 + 1) (.slice s_11.a s_11.n s_11.c) <|
 Q (.bool true)):=by kernel_rfl
theorem f160_raw {jn:Jn} {e0:Option Addr} {key1:ByteArray} {Q:Value -> WP}:funJ jn Tryz.prog f160_kp Tryz.f160 [.pointer e0,.string key1] Q = (
 drawW fun S=>
 call1 .bool Tryz.prog 155 [.pointer e0,.string key1] fun (x_1:Bool)=>
 keepS true S <|
 ite2 x_1 (
 keepS true S <|
 Q (.bool false)) (
 nilck e0 fun b_2 o_3=>
 ldS S (.int .i64) b_2 (o_3 + 3) fun (x_4:Int)=>
 call1 (.int .i64) Tryz.prog 170 [.pointer e0] fun (x_5:Int)=>
 keepS true S <|
 ite2 (decide (x_5 >= x_4)) (
 Q (.bool false)) (
 f160_j1 jn Q  e0 key1))):=by kernel_rfl
theorem f160_ok:FnOk Tryz.prog 160 Tryz.f160:=⟨mixed,Tryz.func160,rfl⟩
def f161_kp:KP:=⟨[],[(1,[0,1,2,3,4,5,6,7,9,10,11])]⟩
theorem f161_raw {jn:Jn} {e0:Option Addr} {Q:Value -> WP}:funJ jn Tryz.prog f161_kp Tryz.f161 [.pointer e0] Q = (
 drawW fun S=>
 nilck e0 fun b_1 o_2=>
 ldS S .slc b_1 o_2 fun (x_3:Sl)=>
 nilck e0 fun b_4 o_5=>
 ld .slc b_4 (o_5 + 1) fun (x_6:Sl)=>
 keepS true S <|
 Q (.int .i64 (IntKind.wrap .i64 ((x_3.n:Int) + (x_6.n:Int))))):=by kernel_rfl
theorem f161_ok:FnOk Tryz.prog 161 Tryz.f161:=⟨mixed,Tryz.func161,rfl⟩
def f162_kp:KP:=⟨[],[]⟩
theorem f162_raw {jn:Jn} {e0:Option Addr} {first1:Bool} {Q:Value -> WP}:funJ jn Tryz.prog f162_kp Tryz.f162 [.pointer e0,.bool first1] Q = (
 ite2 first1 (
 nilck e0 fun b_1 o_2=>
 ld .slc b_1 o_2 fun (x_3:Sl)=>
 idx x_3.a x_3.n 0 fun b_4 o_5=>
 ld .str b_4 (o_5 + ((0:Int)).toNat * 1) fun (x_6:ByteArray)=>
 nilck e0 fun b_7 o_8=>
 ld .slc b_7 o_8 fun (x_9:Sl)=>
 call1 .slc Tryz.prog 175 [.slice x_9.a x_9.n x_9.c,.string x_6] fun (x_10:Sl)=>
 nilck e0 fun b_11 o_12=>
 st b_11 o_12 (.slice x_10.a x_10.n x_10.c) <|
 nilck e0 fun b_13 o_14=>
 ld .slc b_13 (o_14 + 2) fun (x_15:Sl)=>
 newB [.string x_6] 9 fun b_16=>
 appendC 9 1 16 [.string str_empty] ⟨x_15.a,x_15.n,x_15.c⟩ 1 (fun w=>rdA w (some ⟨b_16,0,none⟩) (1 * 1)) fun s_17=>
 nilck e0 fun b_18 o_19=>
 st b_18 (o_19 + 2) (.slice s_17.a s_17.n s_17.c) <|
 Q (.string x_6)) (
 nilck e0 fun b_20 o_21=>
 ld .slc b_20 (o_21 + 1) fun (x_22:Sl)=>
 idx x_22.a x_22.n 0 fun b_23 o_24=>
 ld .str b_23 (o_24 + ((0:Int)).toNat * 1) fun (x_25:ByteArray)=>
 nilck e0 fun b_26 o_27=>
 ld .slc b_26 (o_27 + 1) fun (x_28:Sl)=>
 call1 .slc Tryz.prog 175 [.slice x_28.a x_28.n x_28.c,.string x_25] fun (x_29:Sl)=>
 nilck e0 fun b_30 o_31=>
 st b_30 (o_31 + 1) (.slice x_29.a x_29.n x_29.c) <|
 nilck e0 fun b_32 o_33=>
 ld .slc b_32 (o_33 + 3) fun (x_34:Sl)=>
 newB [.string x_25] 9 fun b_35=>
 appendC 9 1 16 [.string str_empty] ⟨x_34.a,x_34.n,x_34.c⟩ 1 (fun w=>rdA w (some ⟨b_35,0,none⟩) (1 * 1)) fun s_36=>
 nilck e0 fun b_37 o_38=>
 st b_37 (o_38 + 3) (.slice s_36.a s_36.n s_36.c) <|
 Q (.string x_25))):=by kernel_rfl
theorem f162_ok:FnOk Tryz.prog 162 Tryz.f162:=⟨mixed,Tryz.func162,rfl⟩
def f163_kp:KP:=⟨[],[(1,[0,1,2,3,4,5,7,8])]⟩
theorem f163_raw {jn:Jn} {e0:Option Addr} {Q:Value -> WP}:funJ jn Tryz.prog f163_kp Tryz.f163 [.pointer e0] Q = (
 drawW fun S=>
 nilck e0 fun b_1 o_2=>
 ldS S .slc b_1 (o_2 + 1) fun (x_3:Sl)=>
 call1 (.int .i64) Tryz.prog 182 [.pointer e0,.int .u8 104] fun (x_4:Int)=>
 keepS true S <|
 Q (.int .i64 (IntKind.wrap .i64 ((x_3.n:Int) + x_4)))):=by kernel_rfl
theorem f163_ok:FnOk Tryz.prog 163 Tryz.f163:=⟨mixed,Tryz.func163,rfl⟩
def f164_kp:KP:=⟨[(5,[0,2]),(16,[0])],[]⟩
noncomputable def f164_b (l:List Nat):Code:=cAtN l (bodyOf Tryz.f164)
def f164_r (Q:Value -> WP):Env -> WP:=retK Tryz.prog Tryz.f164 Q
def f164_e0 (jn:Jn) (Q:Value -> WP):Env -> WP:=seqK Tryz.prog f164_kp jn (f164_b [1]) (f164_r Q) noX (f164_r Q)
def f164_j2_c (jn:Jn) (Q:Value -> WP):Env -> WP:=codeI Tryz.prog f164_kp jn (f164_b [1]) (f164_r Q) noX (f164_r Q)
def f164_j2 (jn:Jn) (Q:Value -> WP) (e0:Option Addr):WP:=jn 16 (f164_j2_c jn Q ) ((.pointer e0)::us 44 [])
def f164_l1 (jn:Jn) (Q:Value -> WP) (m1:Nat) (e0:Option Addr) (i2:Int):WP:=lop Tryz.prog f164_kp jn (f164_b [0,1,0,0]) (blkX 0 (f164_e0 jn Q) noX) (f164_r Q) m1 ((.pointer e0)::us 1 ((.int .i64 i2)::us 42 []))
theorem f164_j2_raw {jn:Jn} {Q:Value -> WP} {e0:Option Addr}:f164_j2_c jn Q  ((.pointer e0)::us 44 []) = (
 call0 Tryz.prog 184 [.pointer e0] <|
 Q (.tuple #[])):=by kernel_rfl
theorem f164_l1_raw {jn:Jn} {Q:Value -> WP} {m1:Nat} {e0:Option Addr} {i2:Int}:f164_l1 jn Q  (m1 + 1) e0 i2 = (
 nilck e0 fun b_1 o_2=>
 ld .slc b_1 o_2 fun (x_3:Sl)=>
 ite2 (decide (i2 < (x_3.n:Int))) (
 nilck e0 fun b_4 o_5=>
 ld .slc b_4 o_5 fun (x_6:Sl)=>
 idx x_6.a x_6.n i2 fun b_7 o_8=>
 ld (.int .u8) b_7 ((o_8 + (i2).toNat * 2) + 1) fun (x_9:Int)=>
 ite2 (x_9 == 104) (
 nilck e0 fun b_10 o_11=>
 ld .slc b_10 o_11 fun (x_12:Sl)=>
 idx x_12.a x_12.n i2 fun b_13 o_14=>
 ld .str b_13 (o_14 + (i2).toNat * 2) fun (x_15:ByteArray)=>
 call0 Tryz.prog 205 [.pointer e0,.string x_15] <|
 nilck e0 fun b_16 o_17=>
 ld .slc b_16 (o_17 + 1) fun (x_18:Sl)=>
 newB [.string x_15] 9 fun b_19=>
 appendC 9 1 16 [.string str_empty] ⟨x_18.a,x_18.n,x_18.c⟩ 1 (fun w=>rdA w (some ⟨b_19,0,none⟩) (1 * 1)) fun s_20=>
 nilck e0 fun b_21 o_22=>
 st b_21 (o_22 + 1) (.slice s_20.a s_20.n s_20.c) <|
 f164_j2 jn Q  e0) (
 f164_l1 jn Q  m1 e0 (IntKind.wrap .i64 (i2 + 1)))) (
 f164_j2 jn Q  e0)):=by kernel_rfl
theorem f164_raw {jn:Jn} {e0:Option Addr} {Q:Value -> WP}:funJ jn Tryz.prog f164_kp Tryz.f164 [.pointer e0] Q = (
 exM fun m=>f164_l1 jn Q  m e0 0):=by kernel_rfl
theorem f164_ok:FnOk Tryz.prog 164 Tryz.f164:=⟨mixed,Tryz.func164,rfl⟩
def f165_kp:KP:=⟨[(7,[0,1,4,5]),(14,[0,4])],[]⟩
noncomputable def f165_b (l:List Nat):Code:=cAtN l (bodyOf Tryz.f165)
def f165_r (Q:Value -> WP):Env -> WP:=retK Tryz.prog Tryz.f165 Q
def f165_e1 (jn:Jn) (Q:Value -> WP):Env -> WP:=seqK Tryz.prog f165_kp jn (f165_b [1,1]) (f165_r Q) noX (f165_r Q)
def f165_j2_c (jn:Jn) (Q:Value -> WP):Env -> WP:=codeI Tryz.prog f165_kp jn (f165_b [1,1]) (f165_r Q) noX (f165_r Q)
def f165_j2 (jn:Jn) (Q:Value -> WP) (e0:Option Addr) (l4:Sl):WP:=jn 14 (f165_j2_c jn Q ) ((.pointer e0)::us 3 ((.slice l4.a l4.n l4.c)::us 33 []))
def f165_l1 (jn:Jn) (Q:Value -> WP) (m1:Nat) (e0:Option Addr) (key1:ByteArray) (l4:Sl) (i5:Int):WP:=lop Tryz.prog f165_kp jn (f165_b [1,0,1,0,0]) (blkX 0 (f165_e1 jn Q) noX) (f165_r Q) m1 ((.pointer e0)::(.string key1)::us 2 ((.slice l4.a l4.n l4.c)::(.int .i64 i5)::us 32 []))
theorem f165_j2_raw {jn:Jn} {Q:Value -> WP} {e0:Option Addr} {l4:Sl}:f165_j2_c jn Q  ((.pointer e0)::us 3 ((.slice l4.a l4.n l4.c)::us 33 [])) = (
 nilck e0 fun b_18 o_19=>
 st b_18 (o_19 + 1) (.slice l4.a l4.n l4.c) <|
 Q (.tuple #[])):=by kernel_rfl
theorem f165_l1_raw {jn:Jn} {Q:Value -> WP} {m1:Nat} {e0:Option Addr} {key1:ByteArray} {l4:Sl} {i5:Int}:f165_l1 jn Q  (m1 + 1) e0 key1 l4 i5 = (
 nilck e0 fun b_1 o_2=>
 ld .slc b_1 (o_2 + 1) fun (x_3:Sl)=>
 ite2 (decide (i5 < (x_3.n:Int))) (
 nilck e0 fun b_4 o_5=>
 ld .slc b_4 (o_5 + 1) fun (x_6:Sl)=>
 idx x_6.a x_6.n i5 fun b_7 o_8=>
 ld .str b_7 (o_8 + (i5).toNat * 1) fun (x_9:ByteArray)=>
 ite2 (!sEq x_9 key1) (
 nilck e0 fun b_10 o_11=>
 ld .slc b_10 (o_11 + 1) fun (x_12:Sl)=>
 idx x_12.a x_12.n i5 fun b_13 o_14=>
 ld .str b_13 (o_14 + (i5).toNat * 1) fun (x_15:ByteArray)=>
 newB [.string x_15] 9 fun b_16=>
 appendC 9 1 16 [.string str_empty] ⟨l4.a,l4.n,l4.c⟩ 1 (fun w=>rdA w (some ⟨b_16,0,none⟩) (1 * 1)) fun s_17=>
 f165_l1 jn Q  m1 e0 key1 s_17 (IntKind.wrap .i64 (i5 + 1))) (
 f165_l1 jn Q  m1 e0 key1 l4 (IntKind.wrap .i64 (i5 + 1)))) (
 f165_j2 jn Q  e0 l4)):=by kernel_rfl
theorem f165_raw {jn:Jn} {e0:Option Addr} {key1:ByteArray} {Q:Value -> WP}:funJ jn Tryz.prog f165_kp Tryz.f165 [.pointer e0,.string key1] Q = (
 exM fun m=>f165_l1 jn Q  m e0 key1 ⟨none,0,0⟩ 0):=by kernel_rfl
theorem f165_ok:FnOk Tryz.prog 165 Tryz.f165:=⟨mixed,Tryz.func165,rfl⟩
def f166_kp:KP:=⟨[(7,[0,1,5]),(14,[])],[]⟩
noncomputable def f166_b (l:List Nat):Code:=cAtN l (bodyOf Tryz.f166)
def f166_r (Q:Value -> WP):Env -> WP:=retK Tryz.prog Tryz.f166 Q
def f166_e1 (jn:Jn) (Q:Value -> WP):Env -> WP:=seqK Tryz.prog f166_kp jn (f166_b [1,1]) (f166_r Q) noX (f166_r Q)
def f166_j2_c (jn:Jn) (Q:Value -> WP):Env -> WP:=codeI Tryz.prog f166_kp jn (f166_b [1,1]) (f166_r Q) noX (f166_r Q)
def f166_j2 (jn:Jn) (Q:Value -> WP):WP:=jn 14 (f166_j2_c jn Q ) (us 26 [])
def f166_l1 (jn:Jn) (Q:Value -> WP) (m1:Nat) (e0:Option Addr) (key1:ByteArray) (i5:Int):WP:=lop Tryz.prog f166_kp jn (f166_b [1,0,1,0,0]) (blkX 0 (f166_e1 jn Q) noX) (f166_r Q) m1 ((.pointer e0)::(.string key1)::us 3 ((.int .i64 i5)::us 20 []))
theorem f166_j2_raw {jn:Jn} {Q:Value -> WP}:f166_j2_c jn Q  (us 26 []) = (
 Q (.int .i64 (-1))):=by kernel_rfl
theorem f166_l1_raw {jn:Jn} {Q:Value -> WP} {m1:Nat} {e0:Option Addr} {key1:ByteArray} {i5:Int}:f166_l1 jn Q  (m1 + 1) e0 key1 i5 = (
 nilck e0 fun b_1 o_2=>
 ld .slc b_1 o_2 fun (x_3:Sl)=>
 ite2 (decide (i5 < (x_3.n:Int))) (
 nilck e0 fun b_4 o_5=>
 ld .slc b_4 o_5 fun (x_6:Sl)=>
 idx x_6.a x_6.n i5 fun b_7 o_8=>
 ld .str b_7 (o_8 + (i5).toNat * 2) fun (x_9:ByteArray)=>
 ite2 (sEq x_9 key1) (
 Q (.int .i64 i5)) (
 f166_l1 jn Q  m1 e0 key1 (IntKind.wrap .i64 (i5 + 1)))) (
 f166_j2 jn Q  )):=by kernel_rfl
theorem f166_raw {jn:Jn} {e0:Option Addr} {key1:ByteArray} {Q:Value -> WP}:funJ jn Tryz.prog f166_kp Tryz.f166 [.pointer e0,.string key1] Q = (
 exM fun m=>f166_l1 jn Q  m e0 key1 0):=by kernel_rfl
theorem f166_ok:FnOk Tryz.prog 166 Tryz.f166:=⟨mixed,Tryz.func166,rfl⟩
def f167_kp:KP:=⟨[(3,[0]),(7,[0,2]),(14,[0])],[(0,[0,2,3,4,5,6])]⟩
noncomputable def f167_b (l:List Nat):Code:=cAtN l (bodyOf Tryz.f167)
def f167_r (Q:Value -> WP):Env -> WP:=retK Tryz.prog Tryz.f167 Q
def f167_e0 (jn:Jn) (Q:Value -> WP):Env -> WP:=seqK Tryz.prog f167_kp jn (f167_b [1]) (f167_r Q) noX (f167_r Q)
def f167_e1 (jn:Jn) (Q:Value -> WP) (m1:Nat):Env -> WP:=lopK Tryz.prog f167_kp jn (f167_b [0,0,0]) (blkX 0 (f167_e0 jn Q) noX) (f167_r Q) m1
def f167_e4 (jn:Jn) (Q:Value -> WP) (m1:Nat):Nat -> Env -> WP:=blkX 1 (f167_e1 jn Q m1) (blkX 0 (f167_e0 jn Q) noX)
def f167_e6 (jn:Jn) (Q:Value -> WP) (m1:Nat):Nat -> Env -> WP:=blkX 2 (f167_e1 jn Q m1) (f167_e4 jn Q m1)
def f167_l2 (jn:Jn) (Q:Value -> WP) (m1 m2:Nat) (e0:Option Addr) (i2:Int):WP:=lop Tryz.prog f167_kp jn (f167_b [0,0,0,1,0,1,0,0]) (f167_e6 jn Q m1) (f167_r Q) m2 ((.pointer e0)::us 1 ((.int .i64 i2)::us 37 []))
def f167_j3_c (jn:Jn) (Q:Value -> WP):Env -> WP:=codeI Tryz.prog f167_kp jn (f167_b [1]) (f167_r Q) noX (f167_r Q)
def f167_j3 (jn:Jn) (Q:Value -> WP) (e0:Option Addr):WP:=jn 14 (f167_j3_c jn Q ) ((.pointer e0)::us 39 [])
def f167_l1 (jn:Jn) (Q:Value -> WP) (m1:Nat) (e0:Option Addr):WP:=lop Tryz.prog f167_kp jn (f167_b [0,0,0]) (blkX 0 (f167_e0 jn Q) noX) (f167_r Q) m1 ((.pointer e0)::us 39 [])
theorem f167_l2_raw {jn:Jn} {Q:Value -> WP} {m1 m2:Nat} {e0:Option Addr} {i2:Int}:f167_l2 jn Q m1 (m2 + 1) e0 i2 = (
 nilck e0 fun b_5 o_6=>
 ld .slc b_5 o_6 fun (x_7:Sl)=>
 ite2 (decide (i2 < (x_7.n:Int))) (
 nilck e0 fun b_8 o_9=>
 ld .slc b_8 o_9 fun (x_10:Sl)=>
 idx x_10.a x_10.n i2 fun b_11 o_12=>
 ld (.int .u8) b_11 ((o_12 + (i2).toNat * 2) + 1) fun (x_13:Int)=>
 ite2 (x_13 == 103) (
 nilck e0 fun b_14 o_15=>
 ld .slc b_14 o_15 fun (x_16:Sl)=>
 idx x_16.a x_16.n i2 fun b_17 o_18=>
 ld .str b_17 (o_18 + (i2).toNat * 2) fun (x_19:ByteArray)=>
 call0 Tryz.prog 205 [.pointer e0,.string x_19] <|
 f167_l1 jn Q  m1 e0) (
 f167_l2 jn Q m1 m2 e0 (IntKind.wrap .i64 (i2 + 1)))) (
 f167_l1 jn Q  m1 e0)):=by kernel_rfl
theorem f167_j3_raw {jn:Jn} {Q:Value -> WP} {e0:Option Addr}:f167_j3_c jn Q  ((.pointer e0)::us 39 []) = (
 call0 Tryz.prog 184 [.pointer e0] <|
 Q (.tuple #[])):=by kernel_rfl
theorem f167_l1_raw {jn:Jn} {Q:Value -> WP} {m1:Nat} {e0:Option Addr}:f167_l1 jn Q  (m1 + 1) e0 = (
 drawW fun S=>
 nilck e0 fun b_1 o_2=>
 ldS S (.int .i64) b_1 (o_2 + 2) fun (x_3:Int)=>
 call1 (.int .i64) Tryz.prog 182 [.pointer e0,.int .u8 103] fun (x_4:Int)=>
 keepS true S <|
 ite2 (decide (x_4 > x_3)) (
 exM fun m=>f167_l2 jn Q m1 m e0 0) (
 f167_j3 jn Q  e0)):=by kernel_rfl
theorem f167_raw {jn:Jn} {e0:Option Addr} {Q:Value -> WP}:funJ jn Tryz.prog f167_kp Tryz.f167 [.pointer e0] Q = (
 exM fun m=>f167_l1 jn Q  m e0):=by kernel_rfl
theorem f167_ok:FnOk Tryz.prog 167 Tryz.f167:=⟨mixed,Tryz.func167,rfl⟩
def f168_kp:KP:=⟨[],[(1,[0,1,2,3,4,5,6,7,9,10,11])]⟩
theorem f168_raw {jn:Jn} {e0:Option Addr} {Q:Value -> WP}:funJ jn Tryz.prog f168_kp Tryz.f168 [.pointer e0] Q = (
 drawW fun S=>
 nilck e0 fun b_1 o_2=>
 ldS S .slc b_1 o_2 fun (x_3:Sl)=>
 nilck e0 fun b_4 o_5=>
 ld .slc b_4 (o_5 + 2) fun (x_6:Sl)=>
 keepS true S <|
 Q (.int .i64 (IntKind.wrap .i64 ((x_3.n:Int) + (x_6.n:Int))))):=by kernel_rfl
theorem f168_ok:FnOk Tryz.prog 168 Tryz.f168:=⟨mixed,Tryz.func168,rfl⟩
def f169_kp:KP:=⟨[(9,[0,1,5,6]),(16,[5])],[]⟩
noncomputable def f169_b (l:List Nat):Code:=cAtN l (bodyOf Tryz.f169)
def f169_r (Q:Value -> WP):Env -> WP:=retK Tryz.prog Tryz.f169 Q
def f169_e2 (jn:Jn) (Q:Value -> WP):Env -> WP:=seqK Tryz.prog f169_kp jn (f169_b [1,1,1]) (f169_r Q) noX (f169_r Q)
def f169_j2_c (jn:Jn) (Q:Value -> WP):Env -> WP:=codeI Tryz.prog f169_kp jn (f169_b [1,1,1]) (f169_r Q) noX (f169_r Q)
def f169_j2 (jn:Jn) (Q:Value -> WP) (m5:Sl):WP:=jn 16 (f169_j2_c jn Q ) (us 5 ((.slice m5.a m5.n m5.c)::us 21 []))
def f169_l1 (jn:Jn) (Q:Value -> WP) (m1:Nat) (l0:Sl) (key1:ByteArray) (m5:Sl) (i6:Int):WP:=lop Tryz.prog f169_kp jn (f169_b [1,1,0,1,0,0]) (blkX 0 (f169_e2 jn Q) noX) (f169_r Q) m1 ((.slice l0.a l0.n l0.c)::(.string key1)::us 3 ((.slice m5.a m5.n m5.c)::(.int .i64 i6)::us 20 []))
theorem f169_j2_raw {jn:Jn} {Q:Value -> WP} {m5:Sl}:f169_j2_c jn Q  (us 5 ((.slice m5.a m5.n m5.c)::us 21 [])) = (
 Q (.slice m5.a m5.n m5.c)):=by kernel_rfl
theorem f169_l1_raw {jn:Jn} {Q:Value -> WP} {m1:Nat} {l0:Sl} {key1:ByteArray} {m5:Sl} {i6:Int}:f169_l1 jn Q  (m1 + 1) l0 key1 m5 i6 = (
 ite2 (decide (i6 < (l0.n:Int))) (
 idx l0.a l0.n i6 fun b_1 o_2=>
 ld .str b_1 (o_2 + (i6).toNat * 1) fun (x_3:ByteArray)=>
 ite2 (!sEq x_3 key1) (
 idx l0.a l0.n i6 fun b_4 o_5=>
 ld .str b_4 (o_5 + (i6).toNat * 1) fun (x_6:ByteArray)=>
 newB [.string x_6] 9 fun b_7=>
 appendC 9 1 16 [.string str_empty] ⟨m5.a,m5.n,m5.c⟩ 1 (fun w=>rdA w (some ⟨b_7,0,none⟩) (1 * 1)) fun s_8=>
 f169_l1 jn Q  m1 l0 key1 s_8 (IntKind.wrap .i64 (i6 + 1))) (
 f169_l1 jn Q  m1 l0 key1 m5 (IntKind.wrap .i64 (i6 + 1)))) (
 f169_j2 jn Q  m5)):=by kernel_rfl
theorem f169_raw {jn:Jn} {l0:Sl} {key1:ByteArray} {Q:Value -> WP}:funJ jn Tryz.prog f169_kp Tryz.f169 [.slice l0.a l0.n l0.c,.string key1] Q = (
 exM fun m=>f169_l1 jn Q  m l0 key1 ⟨none,0,0⟩ 0):=by kernel_rfl
theorem f169_ok:FnOk Tryz.prog 169 Tryz.f169:=⟨mixed,Tryz.func169,rfl⟩
def f170_kp:KP:=⟨[],[(1,[0,1,2,3,4,5,6,7,9,10,11])]⟩
theorem f170_raw {jn:Jn} {e0:Option Addr} {Q:Value -> WP}:funJ jn Tryz.prog f170_kp Tryz.f170 [.pointer e0] Q = (
 drawW fun S=>
 nilck e0 fun b_1 o_2=>
 ldS S .slc b_1 o_2 fun (x_3:Sl)=>
 nilck e0 fun b_4 o_5=>
 ld .slc b_4 (o_5 + 1) fun (x_6:Sl)=>
 keepS true S <|
 Q (.int .i64 (IntKind.wrap .i64 ((x_3.n:Int) + (x_6.n:Int))))):=by kernel_rfl
theorem f170_ok:FnOk Tryz.prog 170 Tryz.f170:=⟨mixed,Tryz.func170,rfl⟩
def f171_kp:KP:=⟨[],[]⟩
theorem f171_raw {jn:Jn} {e0:Option Addr} {Q:Value -> WP}:funJ jn Tryz.prog f171_kp Tryz.f171 [.pointer e0] Q = (
 nilck e0 fun b_1 o_2=>
 ld (.int .i64) b_1 (o_2 + 3) fun (x_3:Int)=>
 when ((10:Int) ≠ 0) <|
 Q (.int .i64 (if (IntKind.wrap .i64 (Int.tdiv x_3 10)) > 1 then (IntKind.wrap .i64 (Int.tdiv x_3 10)) else 1))):=by kernel_rfl
theorem f171_ok:FnOk Tryz.prog 171 Tryz.f171:=⟨mixed,Tryz.func171,rfl⟩
def f172_kp:KP:=⟨[],[(1,[1,2,3,5,6,7,8,10])]⟩
theorem f172_raw {jn:Jn} {l0:Sl} {i1:Int} {Q:Value -> WP}:funJ jn Tryz.prog f172_kp Tryz.f172 [.slice l0.a l0.n l0.c,.int .i64 i1] Q = (
 drawW fun S=>
 when ((0:Int) <= i1 /\ i1 <= (l0.c:Int)) <|
 when ((0:Int) <= (IntKind.wrap .i64 (i1 + (1:Int))) /\ (IntKind.wrap .i64 (i1 + (1:Int))) <= (l0.n:Int)) <|
 newB [] 230 fun b_1=>
 appendC 230 2 24 [.string str_empty,.int .i64 0] ⟨(some ⟨b_1,0,none⟩),0,0⟩ ((i1).toNat - 0) (fun w=>rdA w (subA l0.a 0 l0.c 2) (((i1).toNat - 0) * 2)) fun s_2=>
 appendC 230 2 24 [.string str_empty,.int .i64 0] ⟨s_2.a,s_2.n,s_2.c⟩ (l0.n - ((IntKind.wrap .i64 (i1 + (1:Int)))).toNat) (fun w=>rdA w (subA l0.a (((IntKind.wrap .i64 (i1 + (1:Int)))).toNat) l0.c 2) ((l0.n - ((IntKind.wrap .i64 (i1 + (1:Int)))).toNat) * 2)) fun s_3=>
 Q (.slice s_3.a s_3.n s_3.c)):=by kernel_rfl
theorem f172_ok:FnOk Tryz.prog 172 Tryz.f172:=⟨mixed,Tryz.func172,rfl⟩
def f173_kp:KP:=⟨[(5,[0])],[(1,[0,1,2,3,4,5,6,7,8,9,11,12,13])]⟩
noncomputable def f173_b (l:List Nat):Code:=cAtN l (bodyOf Tryz.f173)
def f173_r (Q:Value -> WP):Env -> WP:=retK Tryz.prog Tryz.f173 Q
def f173_l1 (jn:Jn) (Q:Value -> WP) (m1:Nat) (e0:Option Addr):WP:=lop Tryz.prog f173_kp jn (f173_b [1,0,0]) (blkX 0 (f173_r Q) noX) (f173_r Q) m1 ((.pointer e0)::us 37 [])
theorem f173_l1_raw {jn:Jn} {Q:Value -> WP} {m1:Nat} {e0:Option Addr}:f173_l1 jn Q  (m1 + 1) e0 = (
 drawW fun S=>
 nilck e0 fun b_10 o_11=>
 ldS S .slc b_10 (o_11 + 2) fun (x_12:Sl)=>
 nilck e0 fun b_13 o_14=>
 ldS S (.int .i64) b_13 (o_14 + 3) fun (x_15:Int)=>
 call1 (.int .i64) Tryz.prog 171 [.pointer e0] fun (x_16:Int)=>
 keepS true S <|
 ite2 (decide ((x_12.n:Int) > (if (IntKind.wrap .i64 (x_15 - x_16)) > 1 then (IntKind.wrap .i64 (x_15 - x_16)) else 1))) (
 nilck e0 fun b_17 o_18=>
 ld .slc b_17 (o_18 + 2) fun (x_19:Sl)=>
 when ((0:Int) <= (1:Int) /\ (1:Int) <= (x_19.n:Int)) <|
 nilck e0 fun b_20 o_21=>
 st b_20 (o_21 + 2) (.slice (subA x_19.a (((1:Int)).toNat) x_19.c 1) (x_19.n - ((1:Int)).toNat) (x_19.c - ((1:Int)).toNat)) <|
 f173_l1 jn Q  m1 e0) (
 Q (.tuple #[]))):=by kernel_rfl
theorem f173_raw {jn:Jn} {e0:Option Addr} {key1:ByteArray} {Q:Value -> WP}:funJ jn Tryz.prog f173_kp Tryz.f173 [.pointer e0,.string key1] Q = (
 newB [] 9 fun b_1=>
 nilck e0 fun b_2 o_3=>
 ld .slc b_2 (o_3 + 2) fun (x_4:Sl)=>
 appendC 9 1 16 [.string str_empty] ⟨(some ⟨b_1,0,none⟩),0,0⟩ x_4.n (fun w=>rdA w x_4.a (x_4.n * 1)) fun s_5=>
 newB [.string key1] 9 fun b_6=>
 appendC 9 1 16 [.string str_empty] ⟨s_5.a,s_5.n,s_5.c⟩ 1 (fun w=>rdA w (some ⟨b_6,0,none⟩) (1 * 1)) fun s_7=>
 nilck e0 fun b_8 o_9=>
 st b_8 (o_9 + 2) (.slice s_7.a s_7.n s_7.c) <|
 exM fun m=>f173_l1 jn Q  m e0):=by kernel_rfl
theorem f173_ok:FnOk Tryz.prog 173 Tryz.f173:=⟨mixed,Tryz.func173,rfl⟩
def f174_kp:KP:=⟨[(5,[0])],[(5,[0,1,2,3,4,5,6,7,9,10,13,14])]⟩
noncomputable def f174_b (l:List Nat):Code:=cAtN l (bodyOf Tryz.f174)
def f174_r (Q:Value -> WP):Env -> WP:=retK Tryz.prog Tryz.f174 Q
def f174_l1 (jn:Jn) (Q:Value -> WP) (m1:Nat) (e0:Option Addr):WP:=lop Tryz.prog f174_kp jn (f174_b [1,0,0]) (blkX 0 (f174_r Q) noX) (f174_r Q) m1 ((.pointer e0)::us 37 [])
theorem f174_l1_raw {jn:Jn} {Q:Value -> WP} {m1:Nat} {e0:Option Addr}:f174_l1 jn Q  (m1 + 1) e0 = (
 nilck e0 fun b_1 o_2=>
 ld .slc b_1 (o_2 + 1) fun (x_3:Sl)=>
 idx x_3.a x_3.n 0 fun b_4 o_5=>
 ld .str b_4 (o_5 + ((0:Int)).toNat * 2) fun (x_6:ByteArray)=>
 ld (.int .i64) b_4 ((o_5 + ((0:Int)).toNat * 2) + 1) fun (x_7:Int)=>
 newB [.string str_empty,.int .i64 0] 230 fun b_8=>
 st b_8 0 (.string x_6) <|
 st b_8 1 (.int .i64 x_7) <|
 nilck e0 fun b_9 o_10=>
 ld .slc b_9 (o_10 + 1) fun (x_11:Sl)=>
 call1 .slc Tryz.prog 172 [.slice x_11.a x_11.n x_11.c,.int .i64 0] fun (x_12:Sl)=>
 nilck e0 fun b_13 o_14=>
 st b_13 (o_14 + 1) (.slice x_12.a x_12.n x_12.c) <|
 ld (.int .i64) b_8 1 fun (x_15:Int)=>
 ite2 (x_15 == 0) (
 ld .str b_8 0 fun (x_16:ByteArray)=>
 Q (.string x_16)) (
 drawW fun S=>
 nilck e0 fun b_17 o_18=>
 ldS S .slc b_17 (o_18 + 1) fun (x_19:Sl)=>
 ldS S .str b_8 0 fun (x_20:ByteArray)=>
 ld (.int .i64) b_8 1 fun (x_21:Int)=>
 keepS true S <|
 newB [.string x_20,.int .i64 (IntKind.wrap .i64 (x_21 - 1))] 230 fun b_22=>
 keepS true S <|
 appendC 230 2 24 [.string str_empty,.int .i64 0] ⟨x_19.a,x_19.n,x_19.c⟩ 1 (fun w=>rdA w (some ⟨b_22,0,none⟩) (1 * 2)) fun s_23=>
 nilck e0 fun b_24 o_25=>
 st b_24 (o_25 + 1) (.slice s_23.a s_23.n s_23.c) <|
 f174_l1 jn Q  m1 e0)):=by kernel_rfl
theorem f174_raw {jn:Jn} {e0:Option Addr} {Q:Value -> WP}:funJ jn Tryz.prog f174_kp Tryz.f174 [.pointer e0] Q = (
 exM fun m=>f174_l1 jn Q  m e0):=by kernel_rfl
theorem f174_ok:FnOk Tryz.prog 174 Tryz.f174:=⟨mixed,Tryz.func174,rfl⟩
def f175_kp:KP:=⟨[(9,[0,1,5,6]),(16,[5])],[]⟩
noncomputable def f175_b (l:List Nat):Code:=cAtN l (bodyOf Tryz.f175)
def f175_r (Q:Value -> WP):Env -> WP:=retK Tryz.prog Tryz.f175 Q
def f175_e2 (jn:Jn) (Q:Value -> WP):Env -> WP:=seqK Tryz.prog f175_kp jn (f175_b [1,1,1]) (f175_r Q) noX (f175_r Q)
def f175_j2_c (jn:Jn) (Q:Value -> WP):Env -> WP:=codeI Tryz.prog f175_kp jn (f175_b [1,1,1]) (f175_r Q) noX (f175_r Q)
def f175_j2 (jn:Jn) (Q:Value -> WP) (m5:Sl):WP:=jn 16 (f175_j2_c jn Q ) (us 5 ((.slice m5.a m5.n m5.c)::us 21 []))
def f175_l1 (jn:Jn) (Q:Value -> WP) (m1:Nat) (l0:Sl) (key1:ByteArray) (m5:Sl) (i6:Int):WP:=lop Tryz.prog f175_kp jn (f175_b [1,1,0,1,0,0]) (blkX 0 (f175_e2 jn Q) noX) (f175_r Q) m1 ((.slice l0.a l0.n l0.c)::(.string key1)::us 3 ((.slice m5.a m5.n m5.c)::(.int .i64 i6)::us 20 []))
theorem f175_j2_raw {jn:Jn} {Q:Value -> WP} {m5:Sl}:f175_j2_c jn Q  (us 5 ((.slice m5.a m5.n m5.c)::us 21 [])) = (
 Q (.slice m5.a m5.n m5.c)):=by kernel_rfl
theorem f175_l1_raw {jn:Jn} {Q:Value -> WP} {m1:Nat} {l0:Sl} {key1:ByteArray} {m5:Sl} {i6:Int}:f175_l1 jn Q  (m1 + 1) l0 key1 m5 i6 = (
 ite2 (decide (i6 < (l0.n:Int))) (
 idx l0.a l0.n i6 fun b_1 o_2=>
 ld .str b_1 (o_2 + (i6).toNat * 1) fun (x_3:ByteArray)=>
 ite2 (!sEq x_3 key1) (
 idx l0.a l0.n i6 fun b_4 o_5=>
 ld .str b_4 (o_5 + (i6).toNat * 1) fun (x_6:ByteArray)=>
 newB [.string x_6] 9 fun b_7=>
 appendC 9 1 16 [.string str_empty] ⟨m5.a,m5.n,m5.c⟩ 1 (fun w=>rdA w (some ⟨b_7,0,none⟩) (1 * 1)) fun s_8=>
 f175_l1 jn Q  m1 l0 key1 s_8 (IntKind.wrap .i64 (i6 + 1))) (
 f175_l1 jn Q  m1 l0 key1 m5 (IntKind.wrap .i64 (i6 + 1)))) (
 f175_j2 jn Q  m5)):=by kernel_rfl
theorem f175_raw {jn:Jn} {l0:Sl} {key1:ByteArray} {Q:Value -> WP}:funJ jn Tryz.prog f175_kp Tryz.f175 [.slice l0.a l0.n l0.c,.string key1] Q = (
 exM fun m=>f175_l1 jn Q  m l0 key1 ⟨none,0,0⟩ 0):=by kernel_rfl
theorem f175_ok:FnOk Tryz.prog 175 Tryz.f175:=⟨mixed,Tryz.func175,rfl⟩
def f176_kp:KP:=⟨[(7,[0,1,5]),(14,[])],[]⟩
noncomputable def f176_b (l:List Nat):Code:=cAtN l (bodyOf Tryz.f176)
def f176_r (Q:Value -> WP):Env -> WP:=retK Tryz.prog Tryz.f176 Q
def f176_e1 (jn:Jn) (Q:Value -> WP):Env -> WP:=seqK Tryz.prog f176_kp jn (f176_b [1,1]) (f176_r Q) noX (f176_r Q)
def f176_j2_c (jn:Jn) (Q:Value -> WP):Env -> WP:=codeI Tryz.prog f176_kp jn (f176_b [1,1]) (f176_r Q) noX (f176_r Q)
def f176_j2 (jn:Jn) (Q:Value -> WP):WP:=jn 14 (f176_j2_c jn Q ) (us 19 [])
def f176_l1 (jn:Jn) (Q:Value -> WP) (m1:Nat) (l0:Sl) (key1:ByteArray) (i5:Int):WP:=lop Tryz.prog f176_kp jn (f176_b [1,0,1,0,0]) (blkX 0 (f176_e1 jn Q) noX) (f176_r Q) m1 ((.slice l0.a l0.n l0.c)::(.string key1)::us 3 ((.int .i64 i5)::us 13 []))
theorem f176_j2_raw {jn:Jn} {Q:Value -> WP}:f176_j2_c jn Q  (us 19 []) = (
 Q (.int .i64 (-1))):=by kernel_rfl
theorem f176_l1_raw {jn:Jn} {Q:Value -> WP} {m1:Nat} {l0:Sl} {key1:ByteArray} {i5:Int}:f176_l1 jn Q  (m1 + 1) l0 key1 i5 = (
 ite2 (decide (i5 < (l0.n:Int))) (
 idx l0.a l0.n i5 fun b_1 o_2=>
 ld .str b_1 (o_2 + (i5).toNat * 1) fun (x_3:ByteArray)=>
 ite2 (sEq x_3 key1) (
 Q (.int .i64 i5)) (
 f176_l1 jn Q  m1 l0 key1 (IntKind.wrap .i64 (i5 + 1)))) (
 f176_j2 jn Q  )):=by kernel_rfl
theorem f176_raw {jn:Jn} {l0:Sl} {key1:ByteArray} {Q:Value -> WP}:funJ jn Tryz.prog f176_kp Tryz.f176 [.slice l0.a l0.n l0.c,.string key1] Q = (
 exM fun m=>f176_l1 jn Q  m l0 key1 0):=by kernel_rfl
theorem f176_ok:FnOk Tryz.prog 176 Tryz.f176:=⟨mixed,Tryz.func176,rfl⟩
def f177_kp:KP:=⟨[],[(2,[0,1,2,3,4,5,6,7,8,9,10,11,12,13,14,15,16,18,19,20,21,22,23,24]),(7,[0,1,2,3,4,5,6,7,8,9,10,11,12,14,15,16,17,18,19,20])]⟩
theorem f177_raw {jn:Jn} {e0:Option Addr} {key1:ByteArray} {Q:Value -> WP}:funJ jn Tryz.prog f177_kp Tryz.f177 [.pointer e0,.string key1] Q = (
 nilck e0 fun b_1 o_2=>
 ld .slc b_1 (o_2 + 2) fun (x_3:Sl)=>
 call1 (.int .i64) Tryz.prog 176 [.slice x_3.a x_3.n x_3.c,.string key1] fun (x_4:Int)=>
 ite2 (decide (x_4 >= 0)) (
 drawW fun S=>
 nilck e0 fun b_5 o_6=>
 ldS S (.int .i64) b_5 (o_6 + 5) fun (x_7:Int)=>
 nilck e0 fun b_8 o_9=>
 ldS S (.int .i64) b_8 (o_9 + 4) fun (x_10:Int)=>
 nilck e0 fun b_11 o_12=>
 ldS S .slc b_11 (o_12 + 3) fun (x_13:Sl)=>
 nilck e0 fun b_14 o_15=>
 ld .slc b_14 (o_15 + 2) fun (x_16:Sl)=>
 keepS true S <|
 when ((x_16.n:Int) ≠ 0) <|
 nilck e0 fun b_17 o_18=>
 st b_17 (o_18 + 4) (.int .i64 (if (IntKind.wrap .i64 (x_10 + (if (IntKind.wrap .i64 (Int.tdiv (x_13.n:Int) (x_16.n:Int))) > 1 then (IntKind.wrap .i64 (Int.tdiv (x_13.n:Int) (x_16.n:Int))) else 1))) < x_7 then (IntKind.wrap .i64 (x_10 + (if (IntKind.wrap .i64 (Int.tdiv (x_13.n:Int) (x_16.n:Int))) > 1 then (IntKind.wrap .i64 (Int.tdiv (x_13.n:Int) (x_16.n:Int))) else 1))) else x_7)) <|
 call1 .slc Tryz.prog 209 [.pointer e0,.string key1] fun (x_19:Sl)=>
 nilck e0 fun b_20 o_21=>
 ld .slc b_20 (o_21 + 2) fun (x_22:Sl)=>
 call1 .slc Tryz.prog 175 [.slice x_22.a x_22.n x_22.c,.string key1] fun (x_23:Sl)=>
 nilck e0 fun b_24 o_25=>
 st b_24 (o_25 + 2) (.slice x_23.a x_23.n x_23.c) <|
 nilck e0 fun b_26 o_27=>
 ld .slc b_26 (o_27 + 1) fun (x_28:Sl)=>
 newB [.string key1] 9 fun b_29=>
 appendC 9 1 16 [.string str_empty] ⟨x_28.a,x_28.n,x_28.c⟩ 1 (fun w=>rdA w (some ⟨b_29,0,none⟩) (1 * 1)) fun s_30=>
 nilck e0 fun b_31 o_32=>
 st b_31 (o_32 + 1) (.slice s_30.a s_30.n s_30.c) <|
 Q (.slice x_19.a x_19.n x_19.c)) (
 drawW fun S=>
 nilck e0 fun b_33 o_34=>
 ldS S (.int .i64) b_33 (o_34 + 4) fun (x_35:Int)=>
 nilck e0 fun b_36 o_37=>
 ldS S .slc b_36 (o_37 + 2) fun (x_38:Sl)=>
 nilck e0 fun b_39 o_40=>
 ld .slc b_39 (o_40 + 3) fun (x_41:Sl)=>
 keepS true S <|
 when ((x_41.n:Int) ≠ 0) <|
 nilck e0 fun b_42 o_43=>
 st b_42 (o_43 + 4) (.int .i64 (if (IntKind.wrap .i64 (x_35 - (if (IntKind.wrap .i64 (Int.tdiv (x_38.n:Int) (x_41.n:Int))) > 1 then (IntKind.wrap .i64 (Int.tdiv (x_38.n:Int) (x_41.n:Int))) else 1))) > 0 then (IntKind.wrap .i64 (x_35 - (if (IntKind.wrap .i64 (Int.tdiv (x_38.n:Int) (x_41.n:Int))) > 1 then (IntKind.wrap .i64 (Int.tdiv (x_38.n:Int) (x_41.n:Int))) else 1))) else 0)) <|
 call1 .slc Tryz.prog 209 [.pointer e0,.string key1] fun (x_44:Sl)=>
 nilck e0 fun b_45 o_46=>
 ld .slc b_45 (o_46 + 3) fun (x_47:Sl)=>
 call1 .slc Tryz.prog 175 [.slice x_47.a x_47.n x_47.c,.string key1] fun (x_48:Sl)=>
 nilck e0 fun b_49 o_50=>
 st b_49 (o_50 + 3) (.slice x_48.a x_48.n x_48.c) <|
 nilck e0 fun b_51 o_52=>
 ld .slc b_51 (o_52 + 1) fun (x_53:Sl)=>
 newB [.string key1] 9 fun b_54=>
 appendC 9 1 16 [.string str_empty] ⟨x_53.a,x_53.n,x_53.c⟩ 1 (fun w=>rdA w (some ⟨b_54,0,none⟩) (1 * 1)) fun s_55=>
 nilck e0 fun b_56 o_57=>
 st b_56 (o_57 + 1) (.slice s_55.a s_55.n s_55.c) <|
 Q (.slice x_44.a x_44.n x_44.c))):=by kernel_rfl
theorem f177_ok:FnOk Tryz.prog 177 Tryz.f177:=⟨mixed,Tryz.func177,rfl⟩
def f178_kp:KP:=⟨[(10,[0,1,5,6,21]),(28,[0,1,5])],[(2,[0,2,3,4,5,6,7,8,9,10,11,12,13,14]),(3,[0,1,2,3,4,5,6,7,8,9,10,11,12,13,15,16,17,18,19,20,21,22,23,24,26,27,28]),(6,[0,1,2,3,4,5,6,7,8,9,10,11,12,13,15,16])]⟩
noncomputable def f178_b (l:List Nat):Code:=cAtN l (bodyOf Tryz.f178)
def f178_r (Q:Value -> WP):Env -> WP:=retK Tryz.prog Tryz.f178 Q
def f178_e3 (jn:Jn) (Q:Value -> WP):Env -> WP:=seqK Tryz.prog f178_kp jn (f178_b [1,1,1,1]) (f178_r Q) noX (f178_r Q)
def f178_j2_c (jn:Jn) (Q:Value -> WP):Env -> WP:=codeI Tryz.prog f178_kp jn (f178_b [1,1,1,1]) (f178_r Q) noX (f178_r Q)
def f178_j2 (jn:Jn) (Q:Value -> WP) (e0:Option Addr) (key1:ByteArray) (l5:Sl):WP:=jn 28 (f178_j2_c jn Q ) ((.pointer e0)::(.string key1)::us 3 ((.slice l5.a l5.n l5.c)::us 125 []))
def f178_j1_c (jn:Jn) (Q:Value -> WP):Env -> WP:=codeI Tryz.prog f178_kp jn (f178_b [1,1,1,0,0,1]) (f178_e3 jn Q) (blkX 0 (f178_e3 jn Q) noX) (f178_r Q)
def f178_j1 (jn:Jn) (Q:Value -> WP) (e0:Option Addr) (key1:ByteArray) (l5:Sl) (all6:Int) (t21:Bool):WP:=jn 10 (f178_j1_c jn Q ) ((.pointer e0)::(.string key1)::us 3 ((.slice l5.a l5.n l5.c)::(.int .i64 all6)::us 14 ((.bool t21)::us 109 [])))
theorem f178_j2_raw {jn:Jn} {Q:Value -> WP} {e0:Option Addr} {key1:ByteArray} {l5:Sl}:f178_j2_c jn Q  ((.pointer e0)::(.string key1)::us 3 ((.slice l5.a l5.n l5.c)::us 125 [])) = (
 newB [] 9 fun b_29=>
 nilck e0 fun b_30 o_31=>
 ld .slc b_30 o_31 fun (x_32:Sl)=>
 appendC 9 1 16 [.string str_empty] ⟨(some ⟨b_29,0,none⟩),0,0⟩ x_32.n (fun w=>rdA w x_32.a (x_32.n * 1)) fun s_33=>
 newB [.string key1] 9 fun b_34=>
 appendC 9 1 16 [.string str_empty] ⟨s_33.a,s_33.n,s_33.c⟩ 1 (fun w=>rdA w (some ⟨b_34,0,none⟩) (1 * 1)) fun s_35=>
 nilck e0 fun b_36 o_37=>
 st b_36 o_37 (.slice s_35.a s_35.n s_35.c) <|
 Q (.slice l5.a l5.n l5.c)):=by kernel_rfl
theorem f178_j1_raw {jn:Jn} {Q:Value -> WP} {e0:Option Addr} {key1:ByteArray} {l5:Sl} {all6:Int} {t21:Bool}:f178_j1_c jn Q  ((.pointer e0)::(.string key1)::us 3 ((.slice l5.a l5.n l5.c)::(.int .i64 all6)::us 14 ((.bool t21)::us 109 []))) = (
 ite2 t21 (
 nilck e0 fun b_23 o_24=>
 ld .slc b_23 (o_24 + 2) fun (x_25:Sl)=>
 when ((0:Int) <= (1:Int) /\ (1:Int) <= (x_25.n:Int)) <|
 nilck e0 fun b_26 o_27=>
 st b_26 (o_27 + 2) (.slice (subA x_25.a (((1:Int)).toNat) x_25.c 1) (x_25.n - ((1:Int)).toNat) (x_25.c - ((1:Int)).toNat)) <|
 call1 .slc Tryz.prog 209 [.pointer e0,.string key1] fun (x_28:Sl)=>
 f178_j2 jn Q  e0 key1 x_28) (
 drawW fun S=>
 nilck e0 fun b_38 o_39=>
 ldS S .slc b_38 o_39 fun (x_40:Sl)=>
 nilck e0 fun b_41 o_42=>
 ldS S .slc b_41 (o_42 + 2) fun (x_43:Sl)=>
 nilck e0 fun b_44 o_45=>
 ld (.int .i64) b_44 (o_45 + 5) fun (x_46:Int)=>
 keepS true S <|
 ite2 (decide ((IntKind.wrap .i64 ((x_40.n:Int) + (x_43.n:Int))) >= x_46)) (
 nilck e0 fun b_47 o_48=>
 ld .slc b_47 o_48 fun (x_49:Sl)=>
 idx x_49.a x_49.n 0 fun b_50 o_51=>
 ld .str b_50 (o_51 + ((0:Int)).toNat * 1) fun (x_52:ByteArray)=>
 newB [.string x_52] 9 fun b_53=>
 nilck e0 fun b_54 o_55=>
 ld .slc b_54 o_55 fun (x_56:Sl)=>
 when ((0:Int) <= (1:Int) /\ (1:Int) <= (x_56.n:Int)) <|
 nilck e0 fun b_57 o_58=>
 st b_57 o_58 (.slice (subA x_56.a (((1:Int)).toNat) x_56.c 1) (x_56.n - ((1:Int)).toNat) (x_56.c - ((1:Int)).toNat)) <|
 f178_j2 jn Q  e0 key1 ⟨(some ⟨b_53,0,none⟩),1,1⟩) (
 nilck e0 fun b_59 o_60=>
 ld (.int .i64) b_59 (o_60 + 5) fun (x_61:Int)=>
 ite2 (decide (all6 >= x_61)) (
 nilck e0 fun b_62 o_63=>
 ld (.int .i64) b_62 (o_63 + 5) fun (x_64:Int)=>
 ite2 (decide (all6 >= (IntKind.wrap .i64 (2 * x_64)))) (
 nilck e0 fun b_65 o_66=>
 ld .slc b_65 (o_66 + 3) fun (x_67:Sl)=>
 when ((0:Int) <= (1:Int) /\ (1:Int) <= (x_67.n:Int)) <|
 nilck e0 fun b_68 o_69=>
 st b_68 (o_69 + 3) (.slice (subA x_67.a (((1:Int)).toNat) x_67.c 1) (x_67.n - ((1:Int)).toNat) (x_67.c - ((1:Int)).toNat)) <|
 call1 .slc Tryz.prog 209 [.pointer e0,.string key1] fun (x_70:Sl)=>
 f178_j2 jn Q  e0 key1 x_70) (
 call1 .slc Tryz.prog 209 [.pointer e0,.string key1] fun (x_71:Sl)=>
 f178_j2 jn Q  e0 key1 x_71)) (
 f178_j2 jn Q  e0 key1 l5)))):=by kernel_rfl
theorem f178_raw {jn:Jn} {e0:Option Addr} {key1:ByteArray} {Q:Value -> WP}:funJ jn Tryz.prog f178_kp Tryz.f178 [.pointer e0,.string key1] Q = (
 drawW fun S=>
 nilck e0 fun b_1 o_2=>
 ldS S .slc b_1 (o_2 + 2) fun (x_3:Sl)=>
 nilck e0 fun b_4 o_5=>
 ldS S .slc b_4 (o_5 + 3) fun (x_6:Sl)=>
 call1 (.int .i64) Tryz.prog 161 [.pointer e0] fun (x_7:Int)=>
 keepS true S <|
 drawW fun S=>
 nilck e0 fun b_8 o_9=>
 ldS S .slc b_8 o_9 fun (x_10:Sl)=>
 nilck e0 fun b_11 o_12=>
 ldS S .slc b_11 (o_12 + 2) fun (x_13:Sl)=>
 nilck e0 fun b_14 o_15=>
 ld (.int .i64) b_14 (o_15 + 5) fun (x_16:Int)=>
 keepS true S <|
 ite2 (decide ((IntKind.wrap .i64 ((x_10.n:Int) + (x_13.n:Int))) >= x_16)) (
 nilck e0 fun b_17 o_18=>
 ldS S .slc b_17 o_18 fun (x_19:Sl)=>
 nilck e0 fun b_20 o_21=>
 ld (.int .i64) b_20 (o_21 + 5) fun (x_22:Int)=>
 keepS true S <|
 f178_j1 jn Q  e0 key1 ⟨none,0,0⟩ (IntKind.wrap .i64 ((IntKind.wrap .i64 (x_7 + (x_3.n:Int))) + (x_6.n:Int))) (decide ((x_19.n:Int) < x_22))) (
 keepS true S <|
 f178_j1 jn Q  e0 key1 ⟨none,0,0⟩ (IntKind.wrap .i64 ((IntKind.wrap .i64 (x_7 + (x_3.n:Int))) + (x_6.n:Int))) false)):=by kernel_rfl
theorem f178_ok:FnOk Tryz.prog 178 Tryz.f178:=⟨mixed,Tryz.func178,rfl⟩
def f179_kp:KP:=⟨[],[]⟩
theorem f179_raw {jn:Jn} {e0:Option Addr} {key1:ByteArray} {Q:Value -> WP}:funJ jn Tryz.prog f179_kp Tryz.f179 [.pointer e0,.string key1] Q = (
 call1 (.int .i64) Tryz.prog 166 [.pointer e0,.string key1] fun (x_1:Int)=>
 ite2 (decide (x_1 < 0)) (
 Q (.int .u8 0)) (
 nilck e0 fun b_2 o_3=>
 ld .slc b_2 o_3 fun (x_4:Sl)=>
 idx x_4.a x_4.n x_1 fun b_5 o_6=>
 ld (.int .u8) b_5 ((o_6 + (x_1).toNat * 2) + 1) fun (x_7:Int)=>
 Q (.int .u8 x_7))):=by kernel_rfl
theorem f179_ok:FnOk Tryz.prog 179 Tryz.f179:=⟨mixed,Tryz.func179,rfl⟩
def f180_kp:KP:=⟨[],[]⟩
theorem f180_raw {jn:Jn} {e0:Option Addr} {key1:ByteArray} {is2:Int} {Q:Value -> WP}:funJ jn Tryz.prog f180_kp Tryz.f180 [.pointer e0,.string key1,.int .u8 is2] Q = (
 call0 Tryz.prog 205 [.pointer e0,.string key1] <|
 nilck e0 fun b_1 o_2=>
 ld .slc b_1 o_2 fun (x_3:Sl)=>
 newB [.string key1,.int .u8 is2] 227 fun b_4=>
 appendC 227 2 24 [.string str_empty,.int .u8 0] ⟨x_3.a,x_3.n,x_3.c⟩ 1 (fun w=>rdA w (some ⟨b_4,0,none⟩) (1 * 2)) fun s_5=>
 nilck e0 fun b_6 o_7=>
 st b_6 o_7 (.slice s_5.a s_5.n s_5.c) <|
 Q (.tuple #[])):=by kernel_rfl
theorem f180_ok:FnOk Tryz.prog 180 Tryz.f180:=⟨mixed,Tryz.func180,rfl⟩
def f181_kp:KP:=⟨[],[]⟩
theorem f181_raw {jn:Jn} {e0:Option Addr} {key1:ByteArray} {Q:Value -> WP}:funJ jn Tryz.prog f181_kp Tryz.f181 [.pointer e0,.string key1] Q = (
 call0 Tryz.prog 165 [.pointer e0,.string key1] <|
 call0 Tryz.prog 180 [.pointer e0,.string key1,.int .u8 104] <|
 call1 (.int .i64) Tryz.prog 182 [.pointer e0,.int .u8 104] fun (x_1:Int)=>
 call1 (.int .i64) Tryz.prog 183 [.pointer e0] fun (x_2:Int)=>
 ite2 (decide (x_1 > x_2)) (
 call0 Tryz.prog 164 [.pointer e0] <|
 Q (.tuple #[])) (
 Q (.tuple #[]))):=by kernel_rfl
theorem f181_ok:FnOk Tryz.prog 181 Tryz.f181:=⟨mixed,Tryz.func181,rfl⟩
def f182_kp:KP:=⟨[(9,[0,1,5,6]),(16,[5])],[]⟩
noncomputable def f182_b (l:List Nat):Code:=cAtN l (bodyOf Tryz.f182)
def f182_r (Q:Value -> WP):Env -> WP:=retK Tryz.prog Tryz.f182 Q
def f182_e2 (jn:Jn) (Q:Value -> WP):Env -> WP:=seqK Tryz.prog f182_kp jn (f182_b [1,1,1]) (f182_r Q) noX (f182_r Q)
def f182_j2_c (jn:Jn) (Q:Value -> WP):Env -> WP:=codeI Tryz.prog f182_kp jn (f182_b [1,1,1]) (f182_r Q) noX (f182_r Q)
def f182_j2 (jn:Jn) (Q:Value -> WP) (n5:Int):WP:=jn 16 (f182_j2_c jn Q ) (us 5 ((.int .i64 n5)::us 23 []))
def f182_l1 (jn:Jn) (Q:Value -> WP) (m1:Nat) (e0:Option Addr) (is1 n5 i6:Int):WP:=lop Tryz.prog f182_kp jn (f182_b [1,1,0,1,0,0]) (blkX 0 (f182_e2 jn Q) noX) (f182_r Q) m1 ((.pointer e0)::(.int .u8 is1)::us 3 ((.int .i64 n5)::(.int .i64 i6)::us 22 []))
theorem f182_j2_raw {jn:Jn} {Q:Value -> WP} {n5:Int}:f182_j2_c jn Q  (us 5 ((.int .i64 n5)::us 23 [])) = (
 Q (.int .i64 n5)):=by kernel_rfl
theorem f182_l1_raw {jn:Jn} {Q:Value -> WP} {m1:Nat} {e0:Option Addr} {is1 n5 i6:Int}:f182_l1 jn Q  (m1 + 1) e0 is1 n5 i6 = (
 nilck e0 fun b_1 o_2=>
 ld .slc b_1 o_2 fun (x_3:Sl)=>
 ite2 (decide (i6 < (x_3.n:Int))) (
 nilck e0 fun b_4 o_5=>
 ld .slc b_4 o_5 fun (x_6:Sl)=>
 idx x_6.a x_6.n i6 fun b_7 o_8=>
 ld (.int .u8) b_7 ((o_8 + (i6).toNat * 2) + 1) fun (x_9:Int)=>
 ite2 (x_9 == is1) (
 f182_l1 jn Q  m1 e0 is1 (IntKind.wrap .i64 (n5 + 1)) (IntKind.wrap .i64 (i6 + 1))) (
 f182_l1 jn Q  m1 e0 is1 n5 (IntKind.wrap .i64 (i6 + 1)))) (
 f182_j2 jn Q  n5)):=by kernel_rfl
theorem f182_raw {jn:Jn} {e0:Option Addr} {is1:Int} {Q:Value -> WP}:funJ jn Tryz.prog f182_kp Tryz.f182 [.pointer e0,.int .u8 is1] Q = (
 exM fun m=>f182_l1 jn Q  m e0 is1 0 0):=by kernel_rfl
theorem f182_ok:FnOk Tryz.prog 182 Tryz.f182:=⟨mixed,Tryz.func182,rfl⟩
def f183_kp:KP:=⟨[],[(1,[0,1,2,3,4,5,6,8,9,10,11])]⟩
theorem f183_raw {jn:Jn} {e0:Option Addr} {Q:Value -> WP}:funJ jn Tryz.prog f183_kp Tryz.f183 [.pointer e0] Q = (
 drawW fun S=>
 nilck e0 fun b_1 o_2=>
 ldS S (.int .i64) b_1 (o_2 + 2) fun (x_3:Int)=>
 nilck e0 fun b_4 o_5=>
 ld (.int .i64) b_4 (o_5 + 2) fun (x_6:Int)=>
 keepS true S <|
 when ((10:Int) ≠ 0) <|
 Q (.int .i64 (IntKind.wrap .i64 (x_3 - (if (IntKind.wrap .i64 (Int.tdiv x_6 10)) > 1 then (IntKind.wrap .i64 (Int.tdiv x_6 10)) else 1))))):=by kernel_rfl
theorem f183_ok:FnOk Tryz.prog 183 Tryz.f183:=⟨mixed,Tryz.func183,rfl⟩
def f184_kp:KP:=⟨[(3,[0]),(4,[0])],[]⟩
noncomputable def f184_b (l:List Nat):Code:=cAtN l (bodyOf Tryz.f184)
def f184_r (Q:Value -> WP):Env -> WP:=retK Tryz.prog Tryz.f184 Q
def f184_e0 (jn:Jn) (Q:Value -> WP) (m1:Nat):Env -> WP:=lopK Tryz.prog f184_kp jn (f184_b [0,0]) (blkX 0 (f184_r Q) noX) (f184_r Q) m1
def f184_j2_c (jn:Jn) (Q:Value -> WP) (m1:Nat):Env -> WP:=codeI Tryz.prog f184_kp jn (f184_b [0,0,1]) (f184_e0 jn Q m1) (blkX 0 (f184_r Q) noX) (f184_r Q)
def f184_j2 (jn:Jn) (Q:Value -> WP) (m1:Nat) (e0:Option Addr):WP:=jn 4 (f184_j2_c jn Q m1) ((.pointer e0)::us 27 [])
def f184_l1 (jn:Jn) (Q:Value -> WP) (m1:Nat) (e0:Option Addr):WP:=lop Tryz.prog f184_kp jn (f184_b [0,0]) (blkX 0 (f184_r Q) noX) (f184_r Q) m1 ((.pointer e0)::us 27 [])
theorem f184_j2_raw {jn:Jn} {Q:Value -> WP} {m1:Nat} {e0:Option Addr}:f184_j2_c jn Q m1 ((.pointer e0)::us 27 []) = (
 newB [] 227 fun b_10=>
 nilck e0 fun b_11 o_12=>
 ld .slc b_11 o_12 fun (x_13:Sl)=>
 when ((0:Int) <= (1:Int) /\ (1:Int) <= (x_13.n:Int)) <|
 appendC 227 2 24 [.string str_empty,.int .u8 0] ⟨(some ⟨b_10,0,none⟩),0,0⟩ (x_13.n - ((1:Int)).toNat) (fun w=>rdA w (subA x_13.a (((1:Int)).toNat) x_13.c 2) ((x_13.n - ((1:Int)).toNat) * 2)) fun s_14=>
 nilck e0 fun b_15 o_16=>
 st b_15 o_16 (.slice s_14.a s_14.n s_14.c) <|
 f184_l1 jn Q  m1 e0):=by kernel_rfl
theorem f184_l1_raw {jn:Jn} {Q:Value -> WP} {m1:Nat} {e0:Option Addr}:f184_l1 jn Q  (m1 + 1) e0 = (
 nilck e0 fun b_1 o_2=>
 ld .slc b_1 o_2 fun (x_3:Sl)=>
 ite2 (decide ((x_3.n:Int) > 0)) (
 nilck e0 fun b_4 o_5=>
 ld .slc b_4 o_5 fun (x_6:Sl)=>
 idx x_6.a x_6.n 0 fun b_7 o_8=>
 ld (.int .u8) b_7 ((o_8 + ((0:Int)).toNat * 2) + 1) fun (x_9:Int)=>
 ite2 (x_9 != 104) (
 f184_j2 jn Q m1 e0) (
 Q (.tuple #[]))) (
 Q (.tuple #[]))):=by kernel_rfl
theorem f184_raw {jn:Jn} {e0:Option Addr} {Q:Value -> WP}:funJ jn Tryz.prog f184_kp Tryz.f184 [.pointer e0] Q = (
 exM fun m=>f184_l1 jn Q  m e0):=by kernel_rfl
theorem f184_ok:FnOk Tryz.prog 184 Tryz.f184:=⟨mixed,Tryz.func184,rfl⟩
def f185_kp:KP:=⟨[(7,[0,1,5]),(14,[])],[]⟩
noncomputable def f185_b (l:List Nat):Code:=cAtN l (bodyOf Tryz.f185)
def f185_r (Q:Value -> WP):Env -> WP:=retK Tryz.prog Tryz.f185 Q
def f185_e1 (jn:Jn) (Q:Value -> WP):Env -> WP:=seqK Tryz.prog f185_kp jn (f185_b [1,1]) (f185_r Q) noX (f185_r Q)
def f185_j2_c (jn:Jn) (Q:Value -> WP):Env -> WP:=codeI Tryz.prog f185_kp jn (f185_b [1,1]) (f185_r Q) noX (f185_r Q)
def f185_j2 (jn:Jn) (Q:Value -> WP):WP:=jn 14 (f185_j2_c jn Q ) (us 19 [])
def f185_l1 (jn:Jn) (Q:Value -> WP) (m1:Nat) (l0:Sl) (key1:ByteArray) (i5:Int):WP:=lop Tryz.prog f185_kp jn (f185_b [1,0,1,0,0]) (blkX 0 (f185_e1 jn Q) noX) (f185_r Q) m1 ((.slice l0.a l0.n l0.c)::(.string key1)::us 3 ((.int .i64 i5)::us 13 []))
theorem f185_j2_raw {jn:Jn} {Q:Value -> WP}:f185_j2_c jn Q  (us 19 []) = (
 Q (.int .i64 (-1))):=by kernel_rfl
theorem f185_l1_raw {jn:Jn} {Q:Value -> WP} {m1:Nat} {l0:Sl} {key1:ByteArray} {i5:Int}:f185_l1 jn Q  (m1 + 1) l0 key1 i5 = (
 ite2 (decide (i5 < (l0.n:Int))) (
 idx l0.a l0.n i5 fun b_1 o_2=>
 ld .str b_1 (o_2 + (i5).toNat * 1) fun (x_3:ByteArray)=>
 ite2 (sEq x_3 key1) (
 Q (.int .i64 i5)) (
 f185_l1 jn Q  m1 l0 key1 (IntKind.wrap .i64 (i5 + 1)))) (
 f185_j2 jn Q  )):=by kernel_rfl
theorem f185_raw {jn:Jn} {l0:Sl} {key1:ByteArray} {Q:Value -> WP}:funJ jn Tryz.prog f185_kp Tryz.f185 [.slice l0.a l0.n l0.c,.string key1] Q = (
 exM fun m=>f185_l1 jn Q  m l0 key1 0):=by kernel_rfl
theorem f185_ok:FnOk Tryz.prog 185 Tryz.f185:=⟨mixed,Tryz.func185,rfl⟩
def f186_kp:KP:=⟨[],[(1,[0,2,3,4,5,6])]⟩
theorem f186_raw {jn:Jn} {e0:Option Addr} {Q:Value -> WP}:funJ jn Tryz.prog f186_kp Tryz.f186 [.pointer e0] Q = (
 drawW fun S=>
 nilck e0 fun b_1 o_2=>
 ldS S (.int .i64) b_1 (o_2 + 3) fun (x_3:Int)=>
 call1 (.int .i64) Tryz.prog 168 [.pointer e0] fun (x_4:Int)=>
 keepS true S <|
 ite2 (decide (x_4 < x_3)) (
 Q (.slice none 0 0)) (
 call2 .str .bool Tryz.prog 121 [.pointer e0] fun (x_5:ByteArray) (x_6:Bool)=>
 newB [.string x_5] 9 fun b_7=>
 Q (.slice (some ⟨b_7,0,none⟩) 1 1))):=by kernel_rfl
theorem f186_ok:FnOk Tryz.prog 186 Tryz.f186:=⟨mixed,Tryz.func186,rfl⟩
def f187_kp:KP:=⟨[],[]⟩
theorem f187_raw {jn:Jn} {e0:Option Addr} {key1:ByteArray} {Q:Value -> WP}:funJ jn Tryz.prog f187_kp Tryz.f187 [.pointer e0,.string key1] Q = (
 nilck e0 fun b_1 o_2=>
 ld .ptr b_1 (o_2 + 4) fun (x_3:Option Addr)=>
 call1 .bool Tryz.prog 210 [.pointer x_3,.string key1] fun (x_4:Bool)=>
 ite2 (!x_4) (
 Q (.tuple #[])) (
 nilck e0 fun b_5 o_6=>
 ld .ptr b_5 (o_6 + 3) fun (x_7:Option Addr)=>
 nilck x_7 fun b_8 o_9=>
 ld (.int .i64) b_8 (o_9 + 2) fun (x_10:Int)=>
 nilck e0 fun b_11 o_12=>
 ld .ptr b_11 (o_12 + 3) fun (x_13:Option Addr)=>
 call0 Tryz.prog 211 [.pointer x_13,.string key1] <|
 nilck e0 fun b_14 o_15=>
 ld .ptr b_14 (o_15 + 3) fun (x_16:Option Addr)=>
 nilck x_16 fun b_17 o_18=>
 ld (.int .i64) b_17 (o_18 + 2) fun (x_19:Int)=>
 ite2 (decide (x_19 < x_10)) (
 nilck e0 fun b_20 o_21=>
 ld .ptr b_20 (o_21 + 4) fun (x_22:Option Addr)=>
 call0 Tryz.prog 212 [.pointer x_22] <|
 Q (.tuple #[])) (
 Q (.tuple #[])))):=by kernel_rfl
theorem f187_ok:FnOk Tryz.prog 187 Tryz.f187:=⟨mixed,Tryz.func187,rfl⟩
def f188_kp:KP:=⟨[(7,[0,1,5]),(14,[])],[]⟩
noncomputable def f188_b (l:List Nat):Code:=cAtN l (bodyOf Tryz.f188)
def f188_r (Q:Value -> WP):Env -> WP:=retK Tryz.prog Tryz.f188 Q
def f188_e1 (jn:Jn) (Q:Value -> WP):Env -> WP:=seqK Tryz.prog f188_kp jn (f188_b [1,1]) (f188_r Q) noX (f188_r Q)
def f188_j2_c (jn:Jn) (Q:Value -> WP):Env -> WP:=codeI Tryz.prog f188_kp jn (f188_b [1,1]) (f188_r Q) noX (f188_r Q)
def f188_j2 (jn:Jn) (Q:Value -> WP):WP:=jn 14 (f188_j2_c jn Q ) (us 19 [])
def f188_l1 (jn:Jn) (Q:Value -> WP) (m1:Nat) (l0:Sl) (key1:ByteArray) (i5:Int):WP:=lop Tryz.prog f188_kp jn (f188_b [1,0,1,0,0]) (blkX 0 (f188_e1 jn Q) noX) (f188_r Q) m1 ((.slice l0.a l0.n l0.c)::(.string key1)::us 3 ((.int .i64 i5)::us 13 []))
theorem f188_j2_raw {jn:Jn} {Q:Value -> WP}:f188_j2_c jn Q  (us 19 []) = (
 Q (.int .i64 (-1))):=by kernel_rfl
theorem f188_l1_raw {jn:Jn} {Q:Value -> WP} {m1:Nat} {l0:Sl} {key1:ByteArray} {i5:Int}:f188_l1 jn Q  (m1 + 1) l0 key1 i5 = (
 ite2 (decide (i5 < (l0.n:Int))) (
 idx l0.a l0.n i5 fun b_1 o_2=>
 ld .str b_1 (o_2 + (i5).toNat * 1) fun (x_3:ByteArray)=>
 ite2 (sEq x_3 key1) (
 Q (.int .i64 i5)) (
 f188_l1 jn Q  m1 l0 key1 (IntKind.wrap .i64 (i5 + 1)))) (
 f188_j2 jn Q  )):=by kernel_rfl
theorem f188_raw {jn:Jn} {l0:Sl} {key1:ByteArray} {Q:Value -> WP}:funJ jn Tryz.prog f188_kp Tryz.f188 [.slice l0.a l0.n l0.c,.string key1] Q = (
 exM fun m=>f188_l1 jn Q  m l0 key1 0):=by kernel_rfl
theorem f188_ok:FnOk Tryz.prog 188 Tryz.f188:=⟨mixed,Tryz.func188,rfl⟩
def f189_kp:KP:=⟨[(9,[0,1,5,6]),(16,[5])],[]⟩
noncomputable def f189_b (l:List Nat):Code:=cAtN l (bodyOf Tryz.f189)
def f189_r (Q:Value -> WP):Env -> WP:=retK Tryz.prog Tryz.f189 Q
def f189_e2 (jn:Jn) (Q:Value -> WP):Env -> WP:=seqK Tryz.prog f189_kp jn (f189_b [1,1,1]) (f189_r Q) noX (f189_r Q)
def f189_j2_c (jn:Jn) (Q:Value -> WP):Env -> WP:=codeI Tryz.prog f189_kp jn (f189_b [1,1,1]) (f189_r Q) noX (f189_r Q)
def f189_j2 (jn:Jn) (Q:Value -> WP) (m5:Sl):WP:=jn 16 (f189_j2_c jn Q ) (us 5 ((.slice m5.a m5.n m5.c)::us 21 []))
def f189_l1 (jn:Jn) (Q:Value -> WP) (m1:Nat) (l0:Sl) (key1:ByteArray) (m5:Sl) (i6:Int):WP:=lop Tryz.prog f189_kp jn (f189_b [1,1,0,1,0,0]) (blkX 0 (f189_e2 jn Q) noX) (f189_r Q) m1 ((.slice l0.a l0.n l0.c)::(.string key1)::us 3 ((.slice m5.a m5.n m5.c)::(.int .i64 i6)::us 20 []))
theorem f189_j2_raw {jn:Jn} {Q:Value -> WP} {m5:Sl}:f189_j2_c jn Q  (us 5 ((.slice m5.a m5.n m5.c)::us 21 [])) = (
 Q (.slice m5.a m5.n m5.c)):=by kernel_rfl
theorem f189_l1_raw {jn:Jn} {Q:Value -> WP} {m1:Nat} {l0:Sl} {key1:ByteArray} {m5:Sl} {i6:Int}:f189_l1 jn Q  (m1 + 1) l0 key1 m5 i6 = (
 ite2 (decide (i6 < (l0.n:Int))) (
 idx l0.a l0.n i6 fun b_1 o_2=>
 ld .str b_1 (o_2 + (i6).toNat * 1) fun (x_3:ByteArray)=>
 ite2 (!sEq x_3 key1) (
 idx l0.a l0.n i6 fun b_4 o_5=>
 ld .str b_4 (o_5 + (i6).toNat * 1) fun (x_6:ByteArray)=>
 newB [.string x_6] 9 fun b_7=>
 appendC 9 1 16 [.string str_empty] ⟨m5.a,m5.n,m5.c⟩ 1 (fun w=>rdA w (some ⟨b_7,0,none⟩) (1 * 1)) fun s_8=>
 f189_l1 jn Q  m1 l0 key1 s_8 (IntKind.wrap .i64 (i6 + 1))) (
 f189_l1 jn Q  m1 l0 key1 m5 (IntKind.wrap .i64 (i6 + 1)))) (
 f189_j2 jn Q  m5)):=by kernel_rfl
theorem f189_raw {jn:Jn} {l0:Sl} {key1:ByteArray} {Q:Value -> WP}:funJ jn Tryz.prog f189_kp Tryz.f189 [.slice l0.a l0.n l0.c,.string key1] Q = (
 exM fun m=>f189_l1 jn Q  m l0 key1 ⟨none,0,0⟩ 0):=by kernel_rfl
theorem f189_ok:FnOk Tryz.prog 189 Tryz.f189:=⟨mixed,Tryz.func189,rfl⟩
def f190_kp:KP:=⟨[(7,[0])],[(2,[0,1,2,3,4,5,7,8,9])]⟩
noncomputable def f190_b (l:List Nat):Code:=cAtN l (bodyOf Tryz.f190)
def f190_r (Q:Value -> WP):Env -> WP:=retK Tryz.prog Tryz.f190 Q
def f190_l1 (jn:Jn) (Q:Value -> WP) (m1:Nat) (e0:Option Addr):WP:=lop Tryz.prog f190_kp jn (f190_b [1,1,0,0]) (blkX 0 (f190_r Q) noX) (f190_r Q) m1 ((.pointer e0)::us 58 [])
theorem f190_l1_raw {jn:Jn} {Q:Value -> WP} {m1:Nat} {e0:Option Addr}:f190_l1 jn Q  (m1 + 1) e0 = (
 drawW fun S=>
 nilck e0 fun b_14 o_15=>
 ldS S .slc b_14 (o_15 + 2) fun (x_16:Sl)=>
 call1 (.int .i64) Tryz.prog 208 [.pointer e0] fun (x_17:Int)=>
 keepS true S <|
 when ((5:Int) ≠ 0) <|
 ite2 (decide ((x_16.n:Int) > (IntKind.wrap .i64 (Int.tdiv (IntKind.wrap .i64 (x_17 * 4)) 5)))) (
 nilck e0 fun b_18 o_19=>
 ld .slc b_18 (o_19 + 2) fun (x_20:Sl)=>
 idx x_20.a x_20.n 0 fun b_21 o_22=>
 ld .str b_21 (o_22 + ((0:Int)).toNat * 1) fun (x_23:ByteArray)=>
 nilck e0 fun b_24 o_25=>
 ld .slc b_24 (o_25 + 2) fun (x_26:Sl)=>
 call1 .slc Tryz.prog 189 [.slice x_26.a x_26.n x_26.c,.string x_23] fun (x_27:Sl)=>
 nilck e0 fun b_28 o_29=>
 st b_28 (o_29 + 2) (.slice x_27.a x_27.n x_27.c) <|
 nilck e0 fun b_30 o_31=>
 ld .slc b_30 (o_31 + 1) fun (x_32:Sl)=>
 newB [.string x_23] 9 fun b_33=>
 appendC 9 1 16 [.string str_empty] ⟨x_32.a,x_32.n,x_32.c⟩ 1 (fun w=>rdA w (some ⟨b_33,0,none⟩) (1 * 1)) fun s_34=>
 nilck e0 fun b_35 o_36=>
 st b_35 (o_36 + 1) (.slice s_34.a s_34.n s_34.c) <|
 f190_l1 jn Q  m1 e0) (
 Q (.tuple #[]))):=by kernel_rfl
theorem f190_raw {jn:Jn} {e0:Option Addr} {key1:ByteArray} {Q:Value -> WP}:funJ jn Tryz.prog f190_kp Tryz.f190 [.pointer e0,.string key1] Q = (
 nilck e0 fun b_1 o_2=>
 ld .slc b_1 (o_2 + 1) fun (x_3:Sl)=>
 call1 .slc Tryz.prog 189 [.slice x_3.a x_3.n x_3.c,.string key1] fun (x_4:Sl)=>
 nilck e0 fun b_5 o_6=>
 st b_5 (o_6 + 1) (.slice x_4.a x_4.n x_4.c) <|
 nilck e0 fun b_7 o_8=>
 ld .slc b_7 (o_8 + 2) fun (x_9:Sl)=>
 newB [.string key1] 9 fun b_10=>
 appendC 9 1 16 [.string str_empty] ⟨x_9.a,x_9.n,x_9.c⟩ 1 (fun w=>rdA w (some ⟨b_10,0,none⟩) (1 * 1)) fun s_11=>
 nilck e0 fun b_12 o_13=>
 st b_12 (o_13 + 2) (.slice s_11.a s_11.n s_11.c) <|
 exM fun m=>f190_l1 jn Q  m e0):=by kernel_rfl
theorem f190_ok:FnOk Tryz.prog 190 Tryz.f190:=⟨mixed,Tryz.func190,rfl⟩
def f191_kp:KP:=⟨[],[]⟩
theorem f191_raw {jn:Jn} {e0:Option Addr} {Q:Value -> WP}:funJ jn Tryz.prog f191_kp Tryz.f191 [.pointer e0] Q = (
 nilck e0 fun b_1 o_2=>
 ld (.int .i64) b_1 (o_2 + 5) fun (x_3:Int)=>
 when ((8:Int) ≠ 0) <|
 Q (.int .i64 (if (IntKind.wrap .i64 (Int.tdiv x_3 8)) > 1 then (IntKind.wrap .i64 (Int.tdiv x_3 8)) else 1))):=by kernel_rfl
theorem f191_ok:FnOk Tryz.prog 191 Tryz.f191:=⟨mixed,Tryz.func191,rfl⟩
def f192_kp:KP:=⟨[(24,[0,3,4])],[(3,[0,1,2,3,4,5,6,7,8,9,10,11,13,14]),(6,[0,1,2,3,4,5,6,7,9,10,11,12]),(14,[0,1,2,3,4,5,6,8,11,12,13,14,15,17,18,20,21])]⟩
noncomputable def f192_b (l:List Nat):Code:=cAtN l (bodyOf Tryz.f192)
def f192_r (Q:Value -> WP):Env -> WP:=retK Tryz.prog Tryz.f192 Q
def f192_j1_c (jn:Jn) (Q:Value -> WP):Env -> WP:=codeI Tryz.prog f192_kp jn (f192_b [1,1,1,1,1,1]) (f192_r Q) noX (f192_r Q)
def f192_j1 (jn:Jn) (Q:Value -> WP) (e0:Option Addr) (x3:ByteArray) (row4:Sl):WP:=jn 24 (f192_j1_c jn Q ) ((.pointer e0)::us 2 ((.string x3)::(.slice row4.a row4.n row4.c)::us 102 []))
theorem f192_j1_raw {jn:Jn} {Q:Value -> WP} {e0:Option Addr} {x3:ByteArray} {row4:Sl}:f192_j1_c jn Q  ((.pointer e0)::us 2 ((.string x3)::(.slice row4.a row4.n row4.c)::us 102 [])) = (
 idx row4.a row4.n 0 fun b_40 o_41=>
 ld .str b_40 (o_41 + ((0:Int)).toNat * 1) fun (x_42:ByteArray)=>
 call1 (.int .i64) Tryz.prog 213 [.pointer e0,.string x3] fun (x_43:Int)=>
 call1 (.int .i64) Tryz.prog 213 [.pointer e0,.string x_42] fun (x_44:Int)=>
 ite2 (decide (x_43 <= x_44)) (
 newB [.string x3] 9 fun b_45=>
 Q (.slice (some ⟨b_45,0,none⟩) 1 1)) (
 drawW fun S=>
 nilck e0 fun b_46 o_47=>
 ldS S .slc b_46 (o_47 + 1) fun (x_48:Sl)=>
 nilck e0 fun b_49 o_50=>
 ldS S .slc b_49 (o_50 + 2) fun (x_51:Sl)=>
 allW [
 (call1 .slc Tryz.prog 189 [.slice x_48.a x_48.n x_48.c,.string x_42] fun (x_52:Sl)=>
 keepS true S <|
 newB [.string x3] 9 fun b_53=>
 keepS true S <|
 appendC 9 1 16 [.string str_empty] ⟨x_52.a,x_52.n,x_52.c⟩ 1 (fun w=>rdA w (some ⟨b_53,0,none⟩) (1 * 1)) fun s_54=>
 keepS true S <|
 call1 .slc Tryz.prog 189 [.slice x_51.a x_51.n x_51.c,.string x_42] fun (x_55:Sl)=>
 nilck e0 fun b_56 o_57=>
 st b_56 (o_57 + 1) (.slice s_54.a s_54.n s_54.c) <|
 nilck e0 fun b_58 o_59=>
 st b_58 (o_59 + 2) (.slice x_55.a x_55.n x_55.c) <|
 newB [.string x_42] 9 fun b_60=>
 Q (.slice (some ⟨b_60,0,none⟩) 1 1)),
 (newB [.string x3] 9 fun b_61=>
 keepS true S <|
 call1 .slc Tryz.prog 189 [.slice x_48.a x_48.n x_48.c,.string x_42] fun (x_62:Sl)=>
 keepS true S <|
 appendC 9 1 16 [.string str_empty] ⟨x_62.a,x_62.n,x_62.c⟩ 1 (fun w=>rdA w (some ⟨b_61,0,none⟩) (1 * 1)) fun s_63=>
 keepS true S <|
 call1 .slc Tryz.prog 189 [.slice x_51.a x_51.n x_51.c,.string x_42] fun (x_64:Sl)=>
 nilck e0 fun b_65 o_66=>
 st b_65 (o_66 + 1) (.slice s_63.a s_63.n s_63.c) <|
 nilck e0 fun b_67 o_68=>
 st b_67 (o_68 + 2) (.slice x_64.a x_64.n x_64.c) <|
 newB [.string x_42] 9 fun b_69=>
 Q (.slice (some ⟨b_69,0,none⟩) 1 1))])):=by kernel_rfl
theorem f192_raw {jn:Jn} {e0:Option Addr} {Q:Value -> WP}:funJ jn Tryz.prog f192_kp Tryz.f192 [.pointer e0] Q = (
 nilck e0 fun b_1 o_2=>
 ld .slc b_1 o_2 fun (x_3:Sl)=>
 idx x_3.a x_3.n 0 fun b_4 o_5=>
 ld .str b_4 (o_5 + ((0:Int)).toNat * 1) fun (x_6:ByteArray)=>
 nilck e0 fun b_7 o_8=>
 ld .slc b_7 o_8 fun (x_9:Sl)=>
 call1 .slc Tryz.prog 189 [.slice x_9.a x_9.n x_9.c,.string x_6] fun (x_10:Sl)=>
 nilck e0 fun b_11 o_12=>
 st b_11 o_12 (.slice x_10.a x_10.n x_10.c) <|
 drawW fun S=>
 nilck e0 fun b_13 o_14=>
 ldS S .slc b_13 (o_14 + 1) fun (x_15:Sl)=>
 nilck e0 fun b_16 o_17=>
 ldS S .slc b_16 (o_17 + 2) fun (x_18:Sl)=>
 call1 (.int .i64) Tryz.prog 208 [.pointer e0] fun (x_19:Int)=>
 keepS true S <|
 ite2 (decide ((IntKind.wrap .i64 ((x_15.n:Int) + (x_18.n:Int))) < x_19)) (
 nilck e0 fun b_20 o_21=>
 ld .slc b_20 (o_21 + 1) fun (x_22:Sl)=>
 newB [.string x_6] 9 fun b_23=>
 appendC 9 1 16 [.string str_empty] ⟨x_22.a,x_22.n,x_22.c⟩ 1 (fun w=>rdA w (some ⟨b_23,0,none⟩) (1 * 1)) fun s_24=>
 nilck e0 fun b_25 o_26=>
 st b_25 (o_26 + 1) (.slice s_24.a s_24.n s_24.c) <|
 Q (.slice none 0 0)) (
 drawW fun S=>
 nilck e0 fun b_27 o_28=>
 ldS S .slc b_27 (o_28 + 1) fun (x_29:Sl)=>
 nilck e0 fun b_30 o_31=>
 ld .slc b_30 (o_31 + 2) fun (x_32:Sl)=>
 keepS true S <|
 ite2 ((IntKind.wrap .i64 ((x_29.n:Int) + (x_32.n:Int))) == 0) (
 newB [.string x_6] 9 fun b_33=>
 Q (.slice (some ⟨b_33,0,none⟩) 1 1)) (
 nilck e0 fun b_34 o_35=>
 ld .slc b_34 (o_35 + 1) fun (x_36:Sl)=>
 ite2 ((x_36.n:Int) == 0) (
 nilck e0 fun b_37 o_38=>
 ld .slc b_37 (o_38 + 2) fun (x_39:Sl)=>
 f192_j1 jn Q  e0 x_6 x_39) (
 f192_j1 jn Q  e0 x_6 x_36)))):=by kernel_rfl
theorem f192_ok:FnOk Tryz.prog 192 Tryz.f192:=⟨mixed,Tryz.func192,rfl⟩
def f193_kp:KP:=⟨[(7,[0,1,5]),(14,[])],[]⟩
noncomputable def f193_b (l:List Nat):Code:=cAtN l (bodyOf Tryz.f193)
def f193_r (Q:Value -> WP):Env -> WP:=retK Tryz.prog Tryz.f193 Q
def f193_e1 (jn:Jn) (Q:Value -> WP):Env -> WP:=seqK Tryz.prog f193_kp jn (f193_b [1,1]) (f193_r Q) noX (f193_r Q)
def f193_j2_c (jn:Jn) (Q:Value -> WP):Env -> WP:=codeI Tryz.prog f193_kp jn (f193_b [1,1]) (f193_r Q) noX (f193_r Q)
def f193_j2 (jn:Jn) (Q:Value -> WP):WP:=jn 14 (f193_j2_c jn Q ) (us 20 [])
def f193_l1 (jn:Jn) (Q:Value -> WP) (m1:Nat) (l0:Sl) (key1:ByteArray) (i5:Int):WP:=lop Tryz.prog f193_kp jn (f193_b [1,0,1,0,0]) (blkX 0 (f193_e1 jn Q) noX) (f193_r Q) m1 ((.slice l0.a l0.n l0.c)::(.string key1)::us 3 ((.int .i64 i5)::us 14 []))
theorem f193_j2_raw {jn:Jn} {Q:Value -> WP}:f193_j2_c jn Q  (us 20 []) = (
 Q (.int .i64 (-1))):=by kernel_rfl
theorem f193_l1_raw {jn:Jn} {Q:Value -> WP} {m1:Nat} {l0:Sl} {key1:ByteArray} {i5:Int}:f193_l1 jn Q  (m1 + 1) l0 key1 i5 = (
 ite2 (decide (i5 < (l0.n:Int))) (
 idx l0.a l0.n i5 fun b_1 o_2=>
 ld .str b_1 (o_2 + (i5).toNat * 2) fun (x_3:ByteArray)=>
 ite2 (sEq x_3 key1) (
 Q (.int .i64 i5)) (
 f193_l1 jn Q  m1 l0 key1 (IntKind.wrap .i64 (i5 + 1)))) (
 f193_j2 jn Q  )):=by kernel_rfl
theorem f193_raw {jn:Jn} {l0:Sl} {key1:ByteArray} {Q:Value -> WP}:funJ jn Tryz.prog f193_kp Tryz.f193 [.slice l0.a l0.n l0.c,.string key1] Q = (
 exM fun m=>f193_l1 jn Q  m l0 key1 0):=by kernel_rfl
theorem f193_ok:FnOk Tryz.prog 193 Tryz.f193:=⟨mixed,Tryz.func193,rfl⟩
def f194_kp:KP:=⟨[(9,[0,1,5,6]),(16,[0,5])],[]⟩
noncomputable def f194_b (l:List Nat):Code:=cAtN l (bodyOf Tryz.f194)
def f194_r (Q:Value -> WP):Env -> WP:=retK Tryz.prog Tryz.f194 Q
def f194_e2 (jn:Jn) (Q:Value -> WP):Env -> WP:=seqK Tryz.prog f194_kp jn (f194_b [1,1,1]) (f194_r Q) noX (f194_r Q)
def f194_j2_c (jn:Jn) (Q:Value -> WP):Env -> WP:=codeI Tryz.prog f194_kp jn (f194_b [1,1,1]) (f194_r Q) noX (f194_r Q)
def f194_j2 (jn:Jn) (Q:Value -> WP) (e0:Option Addr) (l5:Sl):WP:=jn 16 (f194_j2_c jn Q ) ((.pointer e0)::us 4 ((.slice l5.a l5.n l5.c)::us 43 []))
def f194_l1 (jn:Jn) (Q:Value -> WP) (m1:Nat) (e0:Option Addr) (key1:ByteArray) (l5:Sl) (i6:Int):WP:=lop Tryz.prog f194_kp jn (f194_b [1,1,0,1,0,0]) (blkX 0 (f194_e2 jn Q) noX) (f194_r Q) m1 ((.pointer e0)::(.string key1)::us 3 ((.slice l5.a l5.n l5.c)::(.int .i64 i6)::us 42 []))
theorem f194_j2_raw {jn:Jn} {Q:Value -> WP} {e0:Option Addr} {l5:Sl}:f194_j2_c jn Q  ((.pointer e0)::us 4 ((.slice l5.a l5.n l5.c)::us 43 [])) = (
 nilck e0 fun b_18 o_19=>
 ld .slc b_18 (o_19 + 2) fun (x_20:Sl)=>
 nilck e0 fun b_21 o_22=>
 st b_21 (o_22 + 2) (.slice l5.a l5.n l5.c) <|
 Q (.bool (decide ((l5.n:Int) < (x_20.n:Int))))):=by kernel_rfl
theorem f194_l1_raw {jn:Jn} {Q:Value -> WP} {m1:Nat} {e0:Option Addr} {key1:ByteArray} {l5:Sl} {i6:Int}:f194_l1 jn Q  (m1 + 1) e0 key1 l5 i6 = (
 nilck e0 fun b_1 o_2=>
 ld .slc b_1 (o_2 + 2) fun (x_3:Sl)=>
 ite2 (decide (i6 < (x_3.n:Int))) (
 nilck e0 fun b_4 o_5=>
 ld .slc b_4 (o_5 + 2) fun (x_6:Sl)=>
 idx x_6.a x_6.n i6 fun b_7 o_8=>
 ld .str b_7 (o_8 + (i6).toNat * 1) fun (x_9:ByteArray)=>
 ite2 (!sEq x_9 key1) (
 nilck e0 fun b_10 o_11=>
 ld .slc b_10 (o_11 + 2) fun (x_12:Sl)=>
 idx x_12.a x_12.n i6 fun b_13 o_14=>
 ld .str b_13 (o_14 + (i6).toNat * 1) fun (x_15:ByteArray)=>
 newB [.string x_15] 9 fun b_16=>
 appendC 9 1 16 [.string str_empty] ⟨l5.a,l5.n,l5.c⟩ 1 (fun w=>rdA w (some ⟨b_16,0,none⟩) (1 * 1)) fun s_17=>
 f194_l1 jn Q  m1 e0 key1 s_17 (IntKind.wrap .i64 (i6 + 1))) (
 f194_l1 jn Q  m1 e0 key1 l5 (IntKind.wrap .i64 (i6 + 1)))) (
 f194_j2 jn Q  e0 l5)):=by kernel_rfl
theorem f194_raw {jn:Jn} {e0:Option Addr} {key1:ByteArray} {Q:Value -> WP}:funJ jn Tryz.prog f194_kp Tryz.f194 [.pointer e0,.string key1] Q = (
 exM fun m=>f194_l1 jn Q  m e0 key1 ⟨none,0,0⟩ 0):=by kernel_rfl
theorem f194_ok:FnOk Tryz.prog 194 Tryz.f194:=⟨mixed,Tryz.func194,rfl⟩
def f195_kp:KP:=⟨[],[(1,[1,2,3,4,6,7,8,9,11])]⟩
theorem f195_raw {jn:Jn} {e0:Option Addr} {Q:Value -> WP}:funJ jn Tryz.prog f195_kp Tryz.f195 [.pointer e0] Q = (
 drawW fun S=>
 nilck e0 fun b_1 o_2=>
 ldS S .slc b_1 o_2 fun (x_3:Sl)=>
 nilck e0 fun b_4 o_5=>
 ldS S .slc b_4 (o_5 + 1) fun (x_6:Sl)=>
 newB [] 9 fun b_7=>
 keepS true S <|
 appendC 9 1 16 [.string str_empty] ⟨(some ⟨b_7,0,none⟩),0,0⟩ x_3.n (fun w=>rdA w x_3.a (x_3.n * 1)) fun s_8=>
 keepS true S <|
 appendC 9 1 16 [.string str_empty] ⟨s_8.a,s_8.n,s_8.c⟩ x_6.n (fun w=>rdA w x_6.a (x_6.n * 1)) fun s_9=>
 Q (.slice s_9.a s_9.n s_9.c)):=by kernel_rfl
theorem f195_ok:FnOk Tryz.prog 195 Tryz.f195:=⟨mixed,Tryz.func195,rfl⟩
def f196_kp:KP:=⟨[(9,[0,3,4]),(16,[3])],[]⟩
noncomputable def f196_b (l:List Nat):Code:=cAtN l (bodyOf Tryz.f196)
def f196_r (Q:Value -> WP):Env -> WP:=retK Tryz.prog Tryz.f196 Q
def f196_e2 (jn:Jn) (Q:Value -> WP):Env -> WP:=seqK Tryz.prog f196_kp jn (f196_b [1,1,1]) (f196_r Q) noX (f196_r Q)
def f196_j2_c (jn:Jn) (Q:Value -> WP):Env -> WP:=codeI Tryz.prog f196_kp jn (f196_b [1,1,1]) (f196_r Q) noX (f196_r Q)
def f196_j2 (jn:Jn) (Q:Value -> WP) (l3:Sl):WP:=jn 16 (f196_j2_c jn Q ) (us 3 ((.slice l3.a l3.n l3.c)::us 37 []))
def f196_l1 (jn:Jn) (Q:Value -> WP) (m1:Nat) (e0:Option Addr) (l3:Sl) (i4:Int):WP:=lop Tryz.prog f196_kp jn (f196_b [1,1,0,1,0,0]) (blkX 0 (f196_e2 jn Q) noX) (f196_r Q) m1 ((.pointer e0)::us 2 ((.slice l3.a l3.n l3.c)::(.int .i64 i4)::us 36 []))
theorem f196_j2_raw {jn:Jn} {Q:Value -> WP} {l3:Sl}:f196_j2_c jn Q  (us 3 ((.slice l3.a l3.n l3.c)::us 37 [])) = (
 Q (.slice l3.a l3.n l3.c)):=by kernel_rfl
theorem f196_l1_raw {jn:Jn} {Q:Value -> WP} {m1:Nat} {e0:Option Addr} {l3:Sl} {i4:Int}:f196_l1 jn Q  (m1 + 1) e0 l3 i4 = (
 nilck e0 fun b_6 o_7=>
 ld .slc b_6 o_7 fun (x_8:Sl)=>
 ite2 (decide (i4 < (x_8.n:Int))) (
 nilck e0 fun b_9 o_10=>
 ld .slc b_9 o_10 fun (x_11:Sl)=>
 idx x_11.a x_11.n i4 fun b_12 o_13=>
 ld (.int .u8) b_12 ((o_13 + (i4).toNat * 2) + 1) fun (x_14:Int)=>
 ite2 (x_14 == 104) (
 nilck e0 fun b_15 o_16=>
 ld .slc b_15 o_16 fun (x_17:Sl)=>
 idx x_17.a x_17.n i4 fun b_18 o_19=>
 ld .str b_18 (o_19 + (i4).toNat * 2) fun (x_20:ByteArray)=>
 newB [.string x_20] 9 fun b_21=>
 appendC 9 1 16 [.string str_empty] ⟨l3.a,l3.n,l3.c⟩ 1 (fun w=>rdA w (some ⟨b_21,0,none⟩) (1 * 1)) fun s_22=>
 f196_l1 jn Q  m1 e0 s_22 (IntKind.wrap .i64 (i4 + 1))) (
 f196_l1 jn Q  m1 e0 l3 (IntKind.wrap .i64 (i4 + 1)))) (
 f196_j2 jn Q  l3)):=by kernel_rfl
theorem f196_raw {jn:Jn} {e0:Option Addr} {Q:Value -> WP}:funJ jn Tryz.prog f196_kp Tryz.f196 [.pointer e0] Q = (
 newB [] 9 fun b_1=>
 nilck e0 fun b_2 o_3=>
 ld .slc b_2 (o_3 + 1) fun (x_4:Sl)=>
 appendC 9 1 16 [.string str_empty] ⟨(some ⟨b_1,0,none⟩),0,0⟩ x_4.n (fun w=>rdA w x_4.a (x_4.n * 1)) fun s_5=>
 exM fun m=>f196_l1 jn Q  m e0 s_5 0):=by kernel_rfl
theorem f196_ok:FnOk Tryz.prog 196 Tryz.f196:=⟨mixed,Tryz.func196,rfl⟩
def f197_kp:KP:=⟨[],[(1,[1,2,3,4,6,7,8,9,11])]⟩
theorem f197_raw {jn:Jn} {e0:Option Addr} {Q:Value -> WP}:funJ jn Tryz.prog f197_kp Tryz.f197 [.pointer e0] Q = (
 drawW fun S=>
 nilck e0 fun b_1 o_2=>
 ldS S .slc b_1 o_2 fun (x_3:Sl)=>
 nilck e0 fun b_4 o_5=>
 ldS S .slc b_4 (o_5 + 2) fun (x_6:Sl)=>
 newB [] 9 fun b_7=>
 keepS true S <|
 appendC 9 1 16 [.string str_empty] ⟨(some ⟨b_7,0,none⟩),0,0⟩ x_3.n (fun w=>rdA w x_3.a (x_3.n * 1)) fun s_8=>
 keepS true S <|
 appendC 9 1 16 [.string str_empty] ⟨s_8.a,s_8.n,s_8.c⟩ x_6.n (fun w=>rdA w x_6.a (x_6.n * 1)) fun s_9=>
 Q (.slice s_9.a s_9.n s_9.c)):=by kernel_rfl
theorem f197_ok:FnOk Tryz.prog 197 Tryz.f197:=⟨mixed,Tryz.func197,rfl⟩
def f198_kp:KP:=⟨[],[(1,[1,2,3,4,6,7,8,9,11,12,13,14,16])]⟩
theorem f198_raw {jn:Jn} {e0:Option Addr} {Q:Value -> WP}:funJ jn Tryz.prog f198_kp Tryz.f198 [.pointer e0] Q = (
 drawW fun S=>
 nilck e0 fun b_1 o_2=>
 ldS S .slc b_1 o_2 fun (x_3:Sl)=>
 nilck e0 fun b_4 o_5=>
 ldS S .slc b_4 (o_5 + 1) fun (x_6:Sl)=>
 nilck e0 fun b_7 o_8=>
 ldS S .slc b_7 (o_8 + 2) fun (x_9:Sl)=>
 newB [] 9 fun b_10=>
 keepS true S <|
 appendC 9 1 16 [.string str_empty] ⟨(some ⟨b_10,0,none⟩),0,0⟩ x_3.n (fun w=>rdA w x_3.a (x_3.n * 1)) fun s_11=>
 keepS true S <|
 appendC 9 1 16 [.string str_empty] ⟨s_11.a,s_11.n,s_11.c⟩ x_6.n (fun w=>rdA w x_6.a (x_6.n * 1)) fun s_12=>
 keepS true S <|
 appendC 9 1 16 [.string str_empty] ⟨s_12.a,s_12.n,s_12.c⟩ x_9.n (fun w=>rdA w x_9.a (x_9.n * 1)) fun s_13=>
 Q (.slice s_13.a s_13.n s_13.c)):=by kernel_rfl
theorem f198_ok:FnOk Tryz.prog 198 Tryz.f198:=⟨mixed,Tryz.func198,rfl⟩
def f199_kp:KP:=⟨[(9,[0,3,4]),(14,[0,3]),(17,[0,3,5]),(22,[3])],[]⟩
noncomputable def f199_b (l:List Nat):Code:=cAtN l (bodyOf Tryz.f199)
def f199_r (Q:Value -> WP):Env -> WP:=retK Tryz.prog Tryz.f199 Q
def f199_e2 (jn:Jn) (Q:Value -> WP):Env -> WP:=seqK Tryz.prog f199_kp jn (f199_b [1,1,1]) (f199_r Q) noX (f199_r Q)
def f199_e9 (jn:Jn) (Q:Value -> WP):Env -> WP:=seqK Tryz.prog f199_kp jn (f199_b [1,1,1,1]) (f199_r Q) noX (f199_r Q)
def f199_j4_c (jn:Jn) (Q:Value -> WP):Env -> WP:=codeI Tryz.prog f199_kp jn (f199_b [1,1,1,1]) (f199_r Q) noX (f199_r Q)
def f199_j4 (jn:Jn) (Q:Value -> WP) (l3:Sl):WP:=jn 22 (f199_j4_c jn Q ) (us 3 ((.slice l3.a l3.n l3.c)::us 43 []))
def f199_l3 (jn:Jn) (Q:Value -> WP) (m3:Nat) (e0:Option Addr) (l3:Sl) (i5:Int):WP:=lop Tryz.prog f199_kp jn (f199_b [1,1,1,0,1,0,0]) (blkX 2 (f199_e9 jn Q) noX) (f199_r Q) m3 ((.pointer e0)::us 2 ((.slice l3.a l3.n l3.c)::us 1 ((.int .i64 i5)::us 41 [])))
def f199_j2_c (jn:Jn) (Q:Value -> WP):Env -> WP:=codeI Tryz.prog f199_kp jn (f199_b [1,1,1]) (f199_r Q) noX (f199_r Q)
def f199_j2 (jn:Jn) (Q:Value -> WP) (e0:Option Addr) (l3:Sl):WP:=jn 14 (f199_j2_c jn Q ) ((.pointer e0)::us 2 ((.slice l3.a l3.n l3.c)::us 43 []))
def f199_l1 (jn:Jn) (Q:Value -> WP) (m1:Nat) (e0:Option Addr) (l3:Sl) (i4:Int):WP:=lop Tryz.prog f199_kp jn (f199_b [1,1,0,1,0,0]) (blkX 0 (f199_e2 jn Q) noX) (f199_r Q) m1 ((.pointer e0)::us 2 ((.slice l3.a l3.n l3.c)::(.int .i64 i4)::us 42 []))
theorem f199_j4_raw {jn:Jn} {Q:Value -> WP} {l3:Sl}:f199_j4_c jn Q  (us 3 ((.slice l3.a l3.n l3.c)::us 43 [])) = (
 Q (.slice l3.a l3.n l3.c)):=by kernel_rfl
theorem f199_l3_raw {jn:Jn} {Q:Value -> WP} {m3:Nat} {e0:Option Addr} {l3:Sl} {i5:Int}:f199_l3 jn Q  (m3 + 1) e0 l3 i5 = (
 nilck e0 fun b_12 o_13=>
 ld .slc b_12 (o_13 + 1) fun (x_14:Sl)=>
 ite2 (decide (i5 < (x_14.n:Int))) (
 nilck e0 fun b_15 o_16=>
 ld .slc b_15 (o_16 + 1) fun (x_17:Sl)=>
 idx x_17.a x_17.n i5 fun b_18 o_19=>
 ld .str b_18 (o_19 + (i5).toNat * 2) fun (x_20:ByteArray)=>
 newB [.string x_20] 9 fun b_21=>
 appendC 9 1 16 [.string str_empty] ⟨l3.a,l3.n,l3.c⟩ 1 (fun w=>rdA w (some ⟨b_21,0,none⟩) (1 * 1)) fun s_22=>
 f199_l3 jn Q  m3 e0 s_22 (IntKind.wrap .i64 (i5 + 1))) (
 f199_j4 jn Q  l3)):=by kernel_rfl
theorem f199_j2_raw {jn:Jn} {Q:Value -> WP} {e0:Option Addr} {l3:Sl}:f199_j2_c jn Q  ((.pointer e0)::us 2 ((.slice l3.a l3.n l3.c)::us 43 [])) = (
 exM fun m=>f199_l3 jn Q  m e0 l3 0):=by kernel_rfl
theorem f199_l1_raw {jn:Jn} {Q:Value -> WP} {m1:Nat} {e0:Option Addr} {l3:Sl} {i4:Int}:f199_l1 jn Q  (m1 + 1) e0 l3 i4 = (
 nilck e0 fun b_1 o_2=>
 ld .slc b_1 o_2 fun (x_3:Sl)=>
 ite2 (decide (i4 < (x_3.n:Int))) (
 nilck e0 fun b_4 o_5=>
 ld .slc b_4 o_5 fun (x_6:Sl)=>
 idx x_6.a x_6.n i4 fun b_7 o_8=>
 ld .str b_7 (o_8 + (i4).toNat * 2) fun (x_9:ByteArray)=>
 newB [.string x_9] 9 fun b_10=>
 appendC 9 1 16 [.string str_empty] ⟨l3.a,l3.n,l3.c⟩ 1 (fun w=>rdA w (some ⟨b_10,0,none⟩) (1 * 1)) fun s_11=>
 f199_l1 jn Q  m1 e0 s_11 (IntKind.wrap .i64 (i4 + 1))) (
 f199_j2 jn Q  e0 l3)):=by kernel_rfl
theorem f199_raw {jn:Jn} {e0:Option Addr} {Q:Value -> WP}:funJ jn Tryz.prog f199_kp Tryz.f199 [.pointer e0] Q = (
 exM fun m=>f199_l1 jn Q  m e0 ⟨none,0,0⟩ 0):=by kernel_rfl
theorem f199_ok:FnOk Tryz.prog 199 Tryz.f199:=⟨mixed,Tryz.func199,rfl⟩
def f200_kp:KP:=⟨[],[]⟩
theorem f200_raw {jn:Jn} {a0 b1:Int} {Q:Value -> WP}:funJ jn Tryz.prog f200_kp Tryz.f200 [.int .u64 a0,.int .u64 b1] Q = (
 when ((0:Int) <= (32:Int)) <|
 when ((0:Int) <= (32:Int)) <|
 when ((0:Int) <= (32:Int)) <|
 when ((0:Int) <= (32:Int)) <|
 when ((0:Int) <= (32:Int)) <|
 when ((0:Int) <= (32:Int)) <|
 Q (.tuple #[.int .u64 (IntKind.wrap .u64 ((IntKind.wrap .u64 ((IntKind.wrap .u64 ((shrV .u64 a0 32) * (shrV .u64 b1 32))) + (shrV .u64 (IntKind.wrap .u64 ((IntKind.wrap .u64 ((shrV .u64 a0 32) * (bits .and .u64 b1 4294967295))) + (shrV .u64 (IntKind.wrap .u64 ((bits .and .u64 a0 4294967295) * (bits .and .u64 b1 4294967295))) 32))) 32))) + (shrV .u64 (IntKind.wrap .u64 ((IntKind.wrap .u64 ((bits .and .u64 a0 4294967295) * (shrV .u64 b1 32))) + (bits .and .u64 (IntKind.wrap .u64 ((IntKind.wrap .u64 ((shrV .u64 a0 32) * (bits .and .u64 b1 4294967295))) + (shrV .u64 (IntKind.wrap .u64 ((bits .and .u64 a0 4294967295) * (bits .and .u64 b1 4294967295))) 32))) 4294967295))) 32))),.int .u64 (bits .or .u64 (shlV .u64 (IntKind.wrap .u64 ((IntKind.wrap .u64 ((bits .and .u64 a0 4294967295) * (shrV .u64 b1 32))) + (bits .and .u64 (IntKind.wrap .u64 ((IntKind.wrap .u64 ((shrV .u64 a0 32) * (bits .and .u64 b1 4294967295))) + (shrV .u64 (IntKind.wrap .u64 ((bits .and .u64 a0 4294967295) * (bits .and .u64 b1 4294967295))) 32))) 4294967295))) 32) (bits .and .u64 (IntKind.wrap .u64 ((bits .and .u64 a0 4294967295) * (bits .and .u64 b1 4294967295))) 4294967295))])):=by kernel_rfl
theorem f200_ok:FnOk Tryz.prog 200 Tryz.f200:=⟨mixed,Tryz.func200,rfl⟩
def f201_kp:KP:=⟨[(7,[0,1,5]),(10,[5])],[]⟩
noncomputable def f201_b (l:List Nat):Code:=cAtN l (bodyOf Tryz.f201)
def f201_r (Q:Value -> WP):Env -> WP:=retK Tryz.prog Tryz.f201 Q
def f201_e2 (jn:Jn) (Q:Value -> WP):Env -> WP:=seqK Tryz.prog f201_kp jn (f201_b [1,1,1]) (f201_r Q) noX (f201_r Q)
def f201_j2_c (jn:Jn) (Q:Value -> WP):Env -> WP:=codeI Tryz.prog f201_kp jn (f201_b [1,1,1]) (f201_r Q) noX (f201_r Q)
def f201_j2 (jn:Jn) (Q:Value -> WP) (n5:Int):WP:=jn 10 (f201_j2_c jn Q ) (us 5 ((.int .i64 n5)::us 13 []))
def f201_l1 (jn:Jn) (Q:Value -> WP) (m1:Nat) (room0 low1 n5:Int):WP:=lop Tryz.prog f201_kp jn (f201_b [1,1,0,0,0]) (blkX 0 (f201_e2 jn Q) noX) (f201_r Q) m1 ((.int .i64 room0)::(.int .i64 low1)::us 3 ((.int .i64 n5)::us 13 []))
theorem f201_j2_raw {jn:Jn} {Q:Value -> WP} {n5:Int}:f201_j2_c jn Q  (us 5 ((.int .i64 n5)::us 13 [])) = (
 Q (.int .i64 n5)):=by kernel_rfl
theorem f201_l1_raw {jn:Jn} {Q:Value -> WP} {m1:Nat} {room0 low1 n5:Int}:f201_l1 jn Q  (m1 + 1) room0 low1 n5 = (
 ite2 (decide (n5 < (if 1024 < (if 1 > room0 then 1 else room0) then 1024 else (if 1 > room0 then 1 else room0)))) (
 f201_l1 jn Q  m1 room0 low1 (IntKind.wrap .i64 (2 * n5))) (
 ite2 (decide (n5 < low1)) (
 f201_l1 jn Q  m1 room0 low1 (IntKind.wrap .i64 (2 * n5))) (
 f201_j2 jn Q  n5))):=by kernel_rfl
theorem f201_raw {jn:Jn} {room0 low1:Int} {Q:Value -> WP}:funJ jn Tryz.prog f201_kp Tryz.f201 [.int .i64 room0,.int .i64 low1] Q = (
 exM fun m=>f201_l1 jn Q  m room0 low1 1):=by kernel_rfl
theorem f201_ok:FnOk Tryz.prog 201 Tryz.f201:=⟨mixed,Tryz.func201,rfl⟩
def f202_kp:KP:=⟨[],[]⟩
theorem f202_raw {jn:Jn} {h0 n1:Int} {Q:Value -> WP}:funJ jn Tryz.prog f202_kp Tryz.f202 [.int .u64 h0,.int .i64 n1] Q = (
 ite2 (decide (n1 < 1)) (
 Q (.int .i64 0)) (
 when ((IntKind.wrap .u64 n1) ≠ 0) <|
 Q (.int .i64 (IntKind.wrap .i64 (Int.tmod h0 (IntKind.wrap .u64 n1)))))):=by kernel_rfl
theorem f202_ok:FnOk Tryz.prog 202 Tryz.f202:=⟨mixed,Tryz.func202,rfl⟩
def f203_kp:KP:=⟨[(9,[1,5,14,15]),(16,[5])],[]⟩
noncomputable def f203_b (l:List Nat):Code:=cAtN l (bodyOf Tryz.f203)
def f203_r (Q:Value -> WP):Env -> WP:=retK Tryz.prog Tryz.f203 Q
def f203_e2 (jn:Jn) (Q:Value -> WP):Env -> WP:=seqK Tryz.prog f203_kp jn (f203_b [1,1,1]) (f203_r Q) noX (f203_r Q)
def f203_j2_c (jn:Jn) (Q:Value -> WP):Env -> WP:=codeI Tryz.prog f203_kp jn (f203_b [1,1,1]) (f203_r Q) noX (f203_r Q)
def f203_j2 (jn:Jn) (Q:Value -> WP) (h5:Int):WP:=jn 16 (f203_j2_c jn Q ) (us 5 ((.int .u64 h5)::us 22 []))
def f203_l1 (jn:Jn) (Q:Value -> WP) (m1:Nat) (s1:ByteArray) (h5 t14 t15:Int):WP:=lop Tryz.prog f203_kp jn (f203_b [1,1,0,1,0,0]) (blkX 0 (f203_e2 jn Q) noX) (f203_r Q) m1 (us 1 ((.string s1)::us 3 ((.int .u64 h5)::us 8 ((.int .i64 t14)::(.int .i64 t15)::us 12 []))))
theorem f203_j2_raw {jn:Jn} {Q:Value -> WP} {h5:Int}:f203_j2_c jn Q  (us 5 ((.int .u64 h5)::us 22 [])) = (
 Q (.int .u64 h5)):=by kernel_rfl
theorem f203_l1_raw {jn:Jn} {Q:Value -> WP} {m1:Nat} {s1:ByteArray} {h5 t14 t15:Int}:f203_l1 jn Q  (m1 + 1) s1 h5 t14 t15 = (
 ite2 (decide (t15 < t14)) (
 when ((0:Int) <= t15 /\ t15 < (s1.size:Int)) <|
 call1 (.int .u64) Tryz.prog 214 [.int .u64 (IntKind.wrap .u64 ((bits .xor .u64 h5 (IntKind.wrap .u64 (byteAt s1 (t15).toNat))) + 11400714819323198485))] fun (x_2:Int)=>
 f203_l1 jn Q  m1 s1 x_2 t14 (IntKind.wrap .i64 (t15 + 1))) (
 f203_j2 jn Q  h5)):=by kernel_rfl
theorem f203_raw {jn:Jn} {seed0:Int} {s1:ByteArray} {Q:Value -> WP}:funJ jn Tryz.prog f203_kp Tryz.f203 [.int .u64 seed0,.string s1] Q = (
 call1 (.int .u64) Tryz.prog 214 [.int .u64 (bits .xor .u64 seed0 (IntKind.wrap .u64 (s1.size:Int)))] fun (x_1:Int)=>
 exM fun m=>f203_l1 jn Q  m s1 x_1 (s1.size:Int) 0):=by kernel_rfl
theorem f203_ok:FnOk Tryz.prog 203 Tryz.f203:=⟨mixed,Tryz.func203,rfl⟩
def f205_kp:KP:=⟨[(7,[0,1,4,5]),(14,[0,4])],[]⟩
noncomputable def f205_b (l:List Nat):Code:=cAtN l (bodyOf Tryz.f205)
def f205_r (Q:Value -> WP):Env -> WP:=retK Tryz.prog Tryz.f205 Q
def f205_e1 (jn:Jn) (Q:Value -> WP):Env -> WP:=seqK Tryz.prog f205_kp jn (f205_b [1,1]) (f205_r Q) noX (f205_r Q)
def f205_j2_c (jn:Jn) (Q:Value -> WP):Env -> WP:=codeI Tryz.prog f205_kp jn (f205_b [1,1]) (f205_r Q) noX (f205_r Q)
def f205_j2 (jn:Jn) (Q:Value -> WP) (e0:Option Addr) (l4:Sl):WP:=jn 14 (f205_j2_c jn Q ) ((.pointer e0)::us 3 ((.slice l4.a l4.n l4.c)::us 34 []))
def f205_l1 (jn:Jn) (Q:Value -> WP) (m1:Nat) (e0:Option Addr) (key1:ByteArray) (l4:Sl) (i5:Int):WP:=lop Tryz.prog f205_kp jn (f205_b [1,0,1,0,0]) (blkX 0 (f205_e1 jn Q) noX) (f205_r Q) m1 ((.pointer e0)::(.string key1)::us 2 ((.slice l4.a l4.n l4.c)::(.int .i64 i5)::us 33 []))
theorem f205_j2_raw {jn:Jn} {Q:Value -> WP} {e0:Option Addr} {l4:Sl}:f205_j2_c jn Q  ((.pointer e0)::us 3 ((.slice l4.a l4.n l4.c)::us 34 [])) = (
 nilck e0 fun b_19 o_20=>
 st b_19 o_20 (.slice l4.a l4.n l4.c) <|
 Q (.tuple #[])):=by kernel_rfl
theorem f205_l1_raw {jn:Jn} {Q:Value -> WP} {m1:Nat} {e0:Option Addr} {key1:ByteArray} {l4:Sl} {i5:Int}:f205_l1 jn Q  (m1 + 1) e0 key1 l4 i5 = (
 nilck e0 fun b_1 o_2=>
 ld .slc b_1 o_2 fun (x_3:Sl)=>
 ite2 (decide (i5 < (x_3.n:Int))) (
 nilck e0 fun b_4 o_5=>
 ld .slc b_4 o_5 fun (x_6:Sl)=>
 idx x_6.a x_6.n i5 fun b_7 o_8=>
 ld .str b_7 (o_8 + (i5).toNat * 2) fun (x_9:ByteArray)=>
 ite2 (!sEq x_9 key1) (
 nilck e0 fun b_10 o_11=>
 ld .slc b_10 o_11 fun (x_12:Sl)=>
 idx x_12.a x_12.n i5 fun b_13 o_14=>
 ld .str b_13 (o_14 + (i5).toNat * 2) fun (x_15:ByteArray)=>
 ld (.int .u8) b_13 ((o_14 + (i5).toNat * 2) + 1) fun (x_16:Int)=>
 newB [.string x_15,.int .u8 x_16] 227 fun b_17=>
 appendC 227 2 24 [.string str_empty,.int .u8 0] ⟨l4.a,l4.n,l4.c⟩ 1 (fun w=>rdA w (some ⟨b_17,0,none⟩) (1 * 2)) fun s_18=>
 f205_l1 jn Q  m1 e0 key1 s_18 (IntKind.wrap .i64 (i5 + 1))) (
 f205_l1 jn Q  m1 e0 key1 l4 (IntKind.wrap .i64 (i5 + 1)))) (
 f205_j2 jn Q  e0 l4)):=by kernel_rfl
theorem f205_raw {jn:Jn} {e0:Option Addr} {key1:ByteArray} {Q:Value -> WP}:funJ jn Tryz.prog f205_kp Tryz.f205 [.pointer e0,.string key1] Q = (
 exM fun m=>f205_l1 jn Q  m e0 key1 ⟨none,0,0⟩ 0):=by kernel_rfl
theorem f205_ok:FnOk Tryz.prog 205 Tryz.f205:=⟨mixed,Tryz.func205,rfl⟩
def f206_kp:KP:=⟨[(7,[0,1,5]),(14,[])],[]⟩
noncomputable def f206_b (l:List Nat):Code:=cAtN l (bodyOf Tryz.f206)
def f206_r (Q:Value -> WP):Env -> WP:=retK Tryz.prog Tryz.f206 Q
def f206_e1 (jn:Jn) (Q:Value -> WP):Env -> WP:=seqK Tryz.prog f206_kp jn (f206_b [1,1]) (f206_r Q) noX (f206_r Q)
def f206_j2_c (jn:Jn) (Q:Value -> WP):Env -> WP:=codeI Tryz.prog f206_kp jn (f206_b [1,1]) (f206_r Q) noX (f206_r Q)
def f206_j2 (jn:Jn) (Q:Value -> WP):WP:=jn 14 (f206_j2_c jn Q ) (us 24 [])
def f206_l1 (jn:Jn) (Q:Value -> WP) (m1:Nat) (e0:Option Addr) (key1:ByteArray) (i5:Int):WP:=lop Tryz.prog f206_kp jn (f206_b [1,0,1,0,0]) (blkX 0 (f206_e1 jn Q) noX) (f206_r Q) m1 ((.pointer e0)::(.string key1)::us 3 ((.int .i64 i5)::us 18 []))
theorem f206_j2_raw {jn:Jn} {Q:Value -> WP}:f206_j2_c jn Q  (us 24 []) = (
 Q (.bool false)):=by kernel_rfl
theorem f206_l1_raw {jn:Jn} {Q:Value -> WP} {m1:Nat} {e0:Option Addr} {key1:ByteArray} {i5:Int}:f206_l1 jn Q  (m1 + 1) e0 key1 i5 = (
 nilck e0 fun b_1 o_2=>
 ld .slc b_1 (o_2 + 1) fun (x_3:Sl)=>
 ite2 (decide (i5 < (x_3.n:Int))) (
 nilck e0 fun b_4 o_5=>
 ld .slc b_4 (o_5 + 1) fun (x_6:Sl)=>
 idx x_6.a x_6.n i5 fun b_7 o_8=>
 ld .str b_7 (o_8 + (i5).toNat * 1) fun (x_9:ByteArray)=>
 ite2 (sEq x_9 key1) (
 Q (.bool true)) (
 f206_l1 jn Q  m1 e0 key1 (IntKind.wrap .i64 (i5 + 1)))) (
 f206_j2 jn Q  )):=by kernel_rfl
theorem f206_raw {jn:Jn} {e0:Option Addr} {key1:ByteArray} {Q:Value -> WP}:funJ jn Tryz.prog f206_kp Tryz.f206 [.pointer e0,.string key1] Q = (
 exM fun m=>f206_l1 jn Q  m e0 key1 0):=by kernel_rfl
theorem f206_ok:FnOk Tryz.prog 206 Tryz.f206:=⟨mixed,Tryz.func206,rfl⟩
def f207_kp:KP:=⟨[],[(1,[0,1,2,3,4,5,6,7,8,9,10,11,12,13,15,16,17])]⟩
theorem f207_raw {jn:Jn} {e0:Option Addr} {Q:Value -> WP}:funJ jn Tryz.prog f207_kp Tryz.f207 [.pointer e0] Q = (
 drawW fun S=>
 nilck e0 fun b_1 o_2=>
 ldS S .slc b_1 o_2 fun (x_3:Sl)=>
 nilck e0 fun b_4 o_5=>
 ldS S .slc b_4 (o_5 + 1) fun (x_6:Sl)=>
 nilck e0 fun b_7 o_8=>
 ld .slc b_7 (o_8 + 2) fun (x_9:Sl)=>
 keepS true S <|
 Q (.int .i64 (IntKind.wrap .i64 ((IntKind.wrap .i64 ((x_3.n:Int) + (x_6.n:Int))) + (x_9.n:Int))))):=by kernel_rfl
theorem f207_ok:FnOk Tryz.prog 207 Tryz.f207:=⟨mixed,Tryz.func207,rfl⟩
def f208_kp:KP:=⟨[],[(1,[0,1,2,3,4,6,7])]⟩
theorem f208_raw {jn:Jn} {e0:Option Addr} {Q:Value -> WP}:funJ jn Tryz.prog f208_kp Tryz.f208 [.pointer e0] Q = (
 drawW fun S=>
 nilck e0 fun b_1 o_2=>
 ldS S (.int .i64) b_1 (o_2 + 5) fun (x_3:Int)=>
 call1 (.int .i64) Tryz.prog 191 [.pointer e0] fun (x_4:Int)=>
 keepS true S <|
 Q (.int .i64 (IntKind.wrap .i64 (x_3 - x_4)))):=by kernel_rfl
theorem f208_ok:FnOk Tryz.prog 208 Tryz.f208:=⟨mixed,Tryz.func208,rfl⟩
def f209_kp:KP:=⟨[],[(1,[0,2,3,4,5,6])]⟩
theorem f209_raw {jn:Jn} {e0:Option Addr} {key1:ByteArray} {Q:Value -> WP}:funJ jn Tryz.prog f209_kp Tryz.f209 [.pointer e0,.string key1] Q = (
 drawW fun S=>
 nilck e0 fun b_1 o_2=>
 ldS S (.int .i64) b_1 (o_2 + 5) fun (x_3:Int)=>
 call1 (.int .i64) Tryz.prog 161 [.pointer e0] fun (x_4:Int)=>
 keepS true S <|
 ite2 (decide (x_4 < x_3)) (
 Q (.slice none 0 0)) (
 nilck e0 fun b_5 o_6=>
 ld .slc b_5 o_6 fun (x_7:Sl)=>
 ite2 (decide ((x_7.n:Int) > 0)) (
 nilck e0 fun b_8 o_9=>
 ld (.int .i64) b_8 (o_9 + 4) fun (x_10:Int)=>
 ite2 (decide ((x_7.n:Int) > x_10)) (
 call1 .str Tryz.prog 162 [.pointer e0,.bool true] fun (x_11:ByteArray)=>
 newB [.string x_11] 9 fun b_12=>
 Q (.slice (some ⟨b_12,0,none⟩) 1 1)) (
 nilck e0 fun b_13 o_14=>
 ld (.int .i64) b_13 (o_14 + 4) fun (x_15:Int)=>
 ite2 ((x_7.n:Int) == x_15) (
 nilck e0 fun b_16 o_17=>
 ld .slc b_16 (o_17 + 3) fun (x_18:Sl)=>
 call1 (.int .i64) Tryz.prog 176 [.slice x_18.a x_18.n x_18.c,.string key1] fun (x_19:Int)=>
 ite2 (decide (x_19 >= 0)) (
 call1 .str Tryz.prog 162 [.pointer e0,.bool true] fun (x_20:ByteArray)=>
 newB [.string x_20] 9 fun b_21=>
 Q (.slice (some ⟨b_21,0,none⟩) 1 1)) (
 nilck e0 fun b_22 o_23=>
 ld .slc b_22 (o_23 + 1) fun (x_24:Sl)=>
 call1 .str Tryz.prog 162 [.pointer e0,.bool ((x_24.n:Int) == 0)] fun (x_25:ByteArray)=>
 newB [.string x_25] 9 fun b_26=>
 Q (.slice (some ⟨b_26,0,none⟩) 1 1))) (
 nilck e0 fun b_27 o_28=>
 ld .slc b_27 (o_28 + 1) fun (x_29:Sl)=>
 call1 .str Tryz.prog 162 [.pointer e0,.bool ((x_29.n:Int) == 0)] fun (x_30:ByteArray)=>
 newB [.string x_30] 9 fun b_31=>
 Q (.slice (some ⟨b_31,0,none⟩) 1 1)))) (
 call1 .str Tryz.prog 162 [.pointer e0,.bool false] fun (x_32:ByteArray)=>
 newB [.string x_32] 9 fun b_33=>
 Q (.slice (some ⟨b_33,0,none⟩) 1 1)))):=by kernel_rfl
theorem f209_ok:FnOk Tryz.prog 209 Tryz.f209:=⟨mixed,Tryz.func209,rfl⟩
def f210_kp:KP:=⟨[(9,[0,1,5,6]),(14,[5])],[(5,[0,1,2,3,4,5,6,8])]⟩
noncomputable def f210_b (l:List Nat):Code:=cAtN l (bodyOf Tryz.f210)
def f210_r (Q:Value -> WP):Env -> WP:=retK Tryz.prog Tryz.f210 Q
def f210_e2 (jn:Jn) (Q:Value -> WP):Env -> WP:=seqK Tryz.prog f210_kp jn (f210_b [1,1,1]) (f210_r Q) noX (f210_r Q)
def f210_j2_c (jn:Jn) (Q:Value -> WP):Env -> WP:=codeI Tryz.prog f210_kp jn (f210_b [1,1,1]) (f210_r Q) noX (f210_r Q)
def f210_j2 (jn:Jn) (Q:Value -> WP) (was5:Bool):WP:=jn 14 (f210_j2_c jn Q ) (us 5 ((.bool was5)::us 18 []))
def f210_l1 (jn:Jn) (Q:Value -> WP) (m1:Nat) (d0:Option Addr) (key1:ByteArray) (was5:Bool) (i6:Int):WP:=lop Tryz.prog f210_kp jn (f210_b [1,1,0,1,0,0]) (blkX 0 (f210_e2 jn Q) noX) (f210_r Q) m1 ((.pointer d0)::(.string key1)::us 3 ((.bool was5)::(.int .i64 i6)::us 17 []))
theorem f210_j2_raw {jn:Jn} {Q:Value -> WP} {was5:Bool}:f210_j2_c jn Q  (us 5 ((.bool was5)::us 18 [])) = (
 Q (.bool was5)):=by kernel_rfl
theorem f210_l1_raw {jn:Jn} {Q:Value -> WP} {m1:Nat} {d0:Option Addr} {key1:ByteArray} {was5:Bool} {i6:Int}:f210_l1 jn Q  (m1 + 1) d0 key1 was5 i6 = (
 ite2 (decide (i6 < 3)) (
 drawW fun S=>
 nilck d0 fun b_2 o_3=>
 ldS S .slc b_2 o_3 fun (x_4:Sl)=>
 call1 (.int .i64) Tryz.prog 217 [.pointer d0,.int .i64 i6,.string key1] fun (x_5:Int)=>
 keepS true S <|
 idx x_4.a x_4.n x_5 fun b_6 o_7=>
 st b_6 (o_7 + (x_5).toNat * 1) (.bool true) <|
 f210_l1 jn Q  m1 d0 key1 was5 (IntKind.wrap .i64 (i6 + 1))) (
 f210_j2 jn Q  was5)):=by kernel_rfl
theorem f210_raw {jn:Jn} {d0:Option Addr} {key1:ByteArray} {Q:Value -> WP}:funJ jn Tryz.prog f210_kp Tryz.f210 [.pointer d0,.string key1] Q = (
 call1 .bool Tryz.prog 216 [.pointer d0,.string key1] fun (x_1:Bool)=>
 exM fun m=>f210_l1 jn Q  m d0 key1 x_1 0):=by kernel_rfl
theorem f210_ok:FnOk Tryz.prog 210 Tryz.f210:=⟨mixed,Tryz.func210,rfl⟩
def f211_kp:KP:=⟨[(9,[0,4,5,6]),(14,[0,4,5,6,31]),(16,[0,5]),(20,[0])],[(5,[0,1,2,3,4,5,7,9,10,11,12,13,14]),(6,[0,1,2,3,4,5,7,8,9]),(9,[0,1,2,3,4,5,6,8,9])]⟩
noncomputable def f211_b (l:List Nat):Code:=cAtN l (bodyOf Tryz.f211)
def f211_r (Q:Value -> WP):Env -> WP:=retK Tryz.prog Tryz.f211 Q
def f211_e2 (jn:Jn) (Q:Value -> WP):Env -> WP:=seqK Tryz.prog f211_kp jn (f211_b [1,1,1]) (f211_r Q) noX (f211_r Q)
def f211_e4 (jn:Jn) (Q:Value -> WP) (m1:Nat):Env -> WP:=lopK Tryz.prog f211_kp jn (f211_b [1,1,0,1,0,0]) (blkX 0 (f211_e2 jn Q) noX) (f211_r Q) m1
def f211_e7 (jn:Jn) (Q:Value -> WP) (m1:Nat):Env -> WP:=seqK Tryz.prog f211_kp jn (f211_b [1,1,0,1,0,0,1,1]) (f211_e4 jn Q m1) (blkX 0 (f211_e2 jn Q) noX) (f211_r Q)
def f211_e8 (jn:Jn) (Q:Value -> WP) (m1:Nat):Nat -> Env -> WP:=blkX 1 (f211_e7 jn Q m1) (blkX 0 (f211_e2 jn Q) noX)
def f211_j2_c (jn:Jn) (Q:Value -> WP) (m1:Nat):Env -> WP:=codeI Tryz.prog f211_kp jn (f211_b [1,1,0,1,0,0,1,0,0,1]) (f211_e7 jn Q m1) (f211_e8 jn Q m1) (f211_r Q)
def f211_j2 (jn:Jn) (Q:Value -> WP) (m1:Nat) (s0:Option Addr) (l4_b l4_o:Nat) (low5 i6:Int) (t31:Bool):WP:=jn 14 (f211_j2_c jn Q m1) ((.pointer s0)::us 3 ((.pointer (some ⟨l4_b,l4_o,none⟩))::(.int .i64 low5)::(.int .i64 i6)::us 24 ((.bool t31)::us 31 [])))
def f211_j4_c (jn:Jn) (Q:Value -> WP):Env -> WP:=codeI Tryz.prog f211_kp jn (f211_b [1,1,1,1]) (f211_r Q) noX (f211_r Q)
def f211_j4 (jn:Jn) (Q:Value -> WP) (s0:Option Addr):WP:=jn 20 (f211_j4_c jn Q ) ((.pointer s0)::us 62 [])
def f211_j3_c (jn:Jn) (Q:Value -> WP):Env -> WP:=codeI Tryz.prog f211_kp jn (f211_b [1,1,1]) (f211_r Q) noX (f211_r Q)
def f211_j3 (jn:Jn) (Q:Value -> WP) (s0:Option Addr) (low5:Int):WP:=jn 16 (f211_j3_c jn Q ) ((.pointer s0)::us 4 ((.int .i64 low5)::us 57 []))
def f211_l1 (jn:Jn) (Q:Value -> WP) (m1:Nat) (s0:Option Addr) (l4_b l4_o:Nat) (low5 i6:Int):WP:=lop Tryz.prog f211_kp jn (f211_b [1,1,0,1,0,0]) (blkX 0 (f211_e2 jn Q) noX) (f211_r Q) m1 ((.pointer s0)::us 3 ((.pointer (some ⟨l4_b,l4_o,none⟩))::(.int .i64 low5)::(.int .i64 i6)::us 56 []))
theorem f211_j2_raw {jn:Jn} {Q:Value -> WP} {m1:Nat} {s0:Option Addr} {l4_b l4_o:Nat} {low5 i6:Int} {t31:Bool}:f211_j2_c jn Q m1 ((.pointer s0)::us 3 ((.pointer (some ⟨l4_b,l4_o,none⟩))::(.int .i64 low5)::(.int .i64 i6)::us 24 ((.bool t31)::us 31 []))) = (
 ite2 t31 (
 drawW fun S=>
 nilck s0 fun b_14 o_15=>
 ldS S .slc b_14 o_15 fun (x_16:Sl)=>
 when ((0:Int) <= i6 /\ i6 < ((4:Nat):Int)) <|
 ld (.int .i64) l4_b (l4_o + (i6).toNat * 1) fun (x_17:Int)=>
 keepS true S <|
 idx x_16.a x_16.n x_17 fun b_18 o_19=>
 st b_18 (o_19 + (x_17).toNat * 1) (.int .i64 (IntKind.wrap .i64 (low5 + 1))) <|
 f211_l1 jn Q  m1 s0 l4_b l4_o low5 (IntKind.wrap .i64 (i6 + 1))) (
 f211_l1 jn Q  m1 s0 l4_b l4_o low5 (IntKind.wrap .i64 (i6 + 1)))):=by kernel_rfl
theorem f211_j4_raw {jn:Jn} {Q:Value -> WP} {s0:Option Addr}:f211_j4_c jn Q  ((.pointer s0)::us 62 []) = (
 drawW fun S=>
 nilck s0 fun b_25 o_26=>
 ldS S (.int .i64) b_25 (o_26 + 2) fun (x_27:Int)=>
 nilck s0 fun b_28 o_29=>
 ld (.int .i64) b_28 (o_29 + 1) fun (x_30:Int)=>
 keepS true S <|
 ite2 (decide (x_27 >= (IntKind.wrap .i64 (10 * x_30)))) (
 call0 Tryz.prog 220 [.pointer s0] <|
 Q (.tuple #[])) (
 Q (.tuple #[]))):=by kernel_rfl
theorem f211_j3_raw {jn:Jn} {Q:Value -> WP} {s0:Option Addr} {low5:Int}:f211_j3_c jn Q  ((.pointer s0)::us 4 ((.int .i64 low5)::us 57 [])) = (
 ite2 (decide (low5 < 15)) (
 nilck s0 fun b_20 o_21=>
 ld (.int .i64) b_20 (o_21 + 2) fun (x_22:Int)=>
 nilck s0 fun b_23 o_24=>
 st b_23 (o_24 + 2) (.int .i64 (IntKind.wrap .i64 (x_22 + 1))) <|
 f211_j4 jn Q  s0) (
 f211_j4 jn Q  s0)):=by kernel_rfl
theorem f211_l1_raw {jn:Jn} {Q:Value -> WP} {m1:Nat} {s0:Option Addr} {l4_b l4_o:Nat} {low5 i6:Int}:f211_l1 jn Q  (m1 + 1) s0 l4_b l4_o low5 i6 = (
 ite2 (decide (i6 < 4)) (
 drawW fun S=>
 nilck s0 fun b_7 o_8=>
 ldS S .slc b_7 o_8 fun (x_9:Sl)=>
 when ((0:Int) <= i6 /\ i6 < ((4:Nat):Int)) <|
 ld (.int .i64) l4_b (l4_o + (i6).toNat * 1) fun (x_10:Int)=>
 keepS true S <|
 idx x_9.a x_9.n x_10 fun b_11 o_12=>
 ld (.int .i64) b_11 (o_12 + (x_10).toNat * 1) fun (x_13:Int)=>
 ite2 (x_13 == low5) (
 f211_j2 jn Q m1 s0 l4_b l4_o low5 i6 (decide (low5 < 15))) (
 f211_j2 jn Q m1 s0 l4_b l4_o low5 i6 false)) (
 f211_j3 jn Q  s0 low5)):=by kernel_rfl
theorem f211_raw {jn:Jn} {s0:Option Addr} {key1:ByteArray} {Q:Value -> WP}:funJ jn Tryz.prog f211_kp Tryz.f211 [.pointer s0,.string key1] Q = (
 fun w=>Calls Tryz.prog 218 #[.pointer s0,.string key1] w fun e w'=>∃ x_1:Int,∃ x_2:Int,∃ x_3:Int,∃ x_4:Int,e = .returned (.agg #[.int .i64 x_1,.int .i64 x_2,.int .i64 x_3,.int .i64 x_4]) /\ (
 newB [.int .i64 0,.int .i64 0,.int .i64 0,.int .i64 0] 248 fun b_5=>
 st b_5 0 (.int .i64 x_1) <|
 st b_5 1 (.int .i64 x_2) <|
 st b_5 2 (.int .i64 x_3) <|
 st b_5 3 (.int .i64 x_4) <|
 call1 (.int .i64) Tryz.prog 219 [.pointer s0,.string key1] fun (x_6:Int)=>
 exM fun m=>f211_l1 jn Q  m s0 b_5 0 x_6 0) w'):=by kernel_rfl
theorem f211_ok:FnOk Tryz.prog 211 Tryz.f211:=⟨mixed,Tryz.func211,rfl⟩
def f212_kp:KP:=⟨[],[]⟩
theorem f212_raw {jn:Jn} {d0:Option Addr} {Q:Value -> WP}:funJ jn Tryz.prog f212_kp Tryz.f212 [.pointer d0] Q = (
 nilck d0 fun b_1 o_2=>
 ld .slc b_1 o_2 fun (x_3:Sl)=>
 makeC 4 1 [.bool false] (x_3.n:Int) (x_3.n:Int) fun s_4=>
 nilck d0 fun b_5 o_6=>
 st b_5 o_6 (.slice s_4.a s_4.n s_4.c) <|
 Q (.tuple #[])):=by kernel_rfl
theorem f212_ok:FnOk Tryz.prog 212 Tryz.f212:=⟨mixed,Tryz.func212,rfl⟩
def f213_kp:KP:=⟨[],[]⟩
theorem f213_raw {jn:Jn} {e0:Option Addr} {key1:ByteArray} {Q:Value -> WP}:funJ jn Tryz.prog f213_kp Tryz.f213 [.pointer e0,.string key1] Q = (
 nilck e0 fun b_1 o_2=>
 ld .ptr b_1 (o_2 + 3) fun (x_3:Option Addr)=>
 call1 (.int .i64) Tryz.prog 219 [.pointer x_3,.string key1] fun (x_4:Int)=>
 nilck e0 fun b_5 o_6=>
 ld .ptr b_5 (o_6 + 4) fun (x_7:Option Addr)=>
 call1 .bool Tryz.prog 216 [.pointer x_7,.string key1] fun (x_8:Bool)=>
 ite2 x_8 (
 Q (.int .i64 (IntKind.wrap .i64 (x_4 + 1)))) (
 Q (.int .i64 x_4))):=by kernel_rfl
theorem f213_ok:FnOk Tryz.prog 213 Tryz.f213:=⟨mixed,Tryz.func213,rfl⟩
def f214_kp:KP:=⟨[],[]⟩
theorem f214_raw {jn:Jn} {x0:Int} {Q:Value -> WP}:funJ jn Tryz.prog f214_kp Tryz.f214 [.int .u64 x0] Q = (
 when ((0:Int) <= (30:Int)) <|
 when ((0:Int) <= (27:Int)) <|
 when ((0:Int) <= (31:Int)) <|
 Q (.int .u64 (bits .xor .u64 (IntKind.wrap .u64 ((bits .xor .u64 (IntKind.wrap .u64 ((bits .xor .u64 x0 (shrV .u64 x0 30)) * 13787848793156543929)) (shrV .u64 (IntKind.wrap .u64 ((bits .xor .u64 x0 (shrV .u64 x0 30)) * 13787848793156543929)) 27)) * 10723151780598845931)) (shrV .u64 (IntKind.wrap .u64 ((bits .xor .u64 (IntKind.wrap .u64 ((bits .xor .u64 x0 (shrV .u64 x0 30)) * 13787848793156543929)) (shrV .u64 (IntKind.wrap .u64 ((bits .xor .u64 x0 (shrV .u64 x0 30)) * 13787848793156543929)) 27)) * 10723151780598845931)) 31)))):=by kernel_rfl
theorem f214_ok:FnOk Tryz.prog 214 Tryz.f214:=⟨mixed,Tryz.func214,rfl⟩
def f216_kp:KP:=⟨[],[(1,[0,1,2,3,4,5,7,9,10,11,12,13,14,15,17,19,20,21,22,23,24,25,26,28,30,31])]⟩
theorem f216_raw {jn:Jn} {d0:Option Addr} {key1:ByteArray} {Q:Value -> WP}:funJ jn Tryz.prog f216_kp Tryz.f216 [.pointer d0,.string key1] Q = (
 drawW fun S=>
 nilck d0 fun b_1 o_2=>
 ldS S .slc b_1 o_2 fun (x_3:Sl)=>
 call1 (.int .i64) Tryz.prog 217 [.pointer d0,.int .i64 0,.string key1] fun (x_4:Int)=>
 keepS true S <|
 idx x_3.a x_3.n x_4 fun b_5 o_6=>
 ld .bool b_5 (o_6 + (x_4).toNat * 1) fun (x_7:Bool)=>
 keepS true S <|
 ite2 x_7 (
 nilck d0 fun b_8 o_9=>
 ldS S .slc b_8 o_9 fun (x_10:Sl)=>
 call1 (.int .i64) Tryz.prog 217 [.pointer d0,.int .i64 1,.string key1] fun (x_11:Int)=>
 keepS true S <|
 idx x_10.a x_10.n x_11 fun b_12 o_13=>
 ld .bool b_12 (o_13 + (x_11).toNat * 1) fun (x_14:Bool)=>
 keepS true S <|
 ite2 x_14 (
 nilck d0 fun b_15 o_16=>
 ldS S .slc b_15 o_16 fun (x_17:Sl)=>
 call1 (.int .i64) Tryz.prog 217 [.pointer d0,.int .i64 2,.string key1] fun (x_18:Int)=>
 keepS true S <|
 idx x_17.a x_17.n x_18 fun b_19 o_20=>
 ld .bool b_19 (o_20 + (x_18).toNat * 1) fun (x_21:Bool)=>
 Q (.bool x_21)) (
 keepS true S <|
 Q (.bool false))) (
 keepS true S <|
 keepS true S <|
 keepS true S <|
 Q (.bool false))):=by kernel_rfl
theorem f216_ok:FnOk Tryz.prog 216 Tryz.f216:=⟨mixed,Tryz.func216,rfl⟩
def f217_kp:KP:=⟨[],[(1,[0,1,2,3,5,6,7,8,9,11])]⟩
theorem f217_raw {jn:Jn} {d0:Option Addr} {i1:Int} {key2:ByteArray} {Q:Value -> WP}:funJ jn Tryz.prog f217_kp Tryz.f217 [.pointer d0,.int .i64 i1,.string key2] Q = (
 drawW fun S=>
 nilck d0 fun b_1 o_2=>
 ldS S .slc b_1 o_2 fun (x_3:Sl)=>
 call1 (.int .u64) Tryz.prog 69 [.int .u64 (IntKind.wrap .u64 (IntKind.wrap .i64 (11 + i1))),.string key2] fun (x_4:Int)=>
 keepS true S <|
 call1 (.int .i64) Tryz.prog 68 [.int .u64 x_4,.int .i64 (x_3.n:Int)] fun (x_5:Int)=>
 Q (.int .i64 x_5)):=by kernel_rfl
theorem f217_ok:FnOk Tryz.prog 217 Tryz.f217:=⟨mixed,Tryz.func217,rfl⟩
def f218_kp:KP:=⟨[(9,[0,1,4,5,6]),(14,[4,5])],[(5,[0,1,2,3,4,5,6,7,8,9,10,12,13,14,15,17,18])]⟩
noncomputable def f218_b (l:List Nat):Code:=cAtN l (bodyOf Tryz.f218)
def f218_r (Q:Value -> WP):Env -> WP:=retK Tryz.prog Tryz.f218 Q
def f218_e2 (jn:Jn) (Q:Value -> WP):Env -> WP:=seqK Tryz.prog f218_kp jn (f218_b [1,1,1]) (f218_r Q) noX (f218_r Q)
def f218_j2_c (jn:Jn) (Q:Value -> WP):Env -> WP:=codeI Tryz.prog f218_kp jn (f218_b [1,1,1]) (f218_r Q) noX (f218_r Q)
def f218_j2 (jn:Jn) (Q:Value -> WP) (t4_b t4_o l5_b l5_o:Nat):WP:=jn 14 (f218_j2_c jn Q ) (us 4 ((.pointer (some ⟨t4_b,t4_o,none⟩))::(.pointer (some ⟨l5_b,l5_o,none⟩))::us 25 []))
def f218_l1 (jn:Jn) (Q:Value -> WP) (m1:Nat) (s0:Option Addr) (key1:ByteArray) (t4_b t4_o l5_b l5_o:Nat) (i6:Int):WP:=lop Tryz.prog f218_kp jn (f218_b [1,1,0,1,0,0]) (blkX 0 (f218_e2 jn Q) noX) (f218_r Q) m1 ((.pointer s0)::(.string key1)::us 2 ((.pointer (some ⟨t4_b,t4_o,none⟩))::(.pointer (some ⟨l5_b,l5_o,none⟩))::(.int .i64 i6)::us 24 []))
theorem f218_j2_raw {jn:Jn} {Q:Value -> WP} {t4_b t4_o l5_b l5_o:Nat}:f218_j2_c jn Q  (us 4 ((.pointer (some ⟨t4_b,t4_o,none⟩))::(.pointer (some ⟨l5_b,l5_o,none⟩))::us 25 [])) = (
 ld (.int .i64) l5_b l5_o fun (x_11:Int)=>
 ld (.int .i64) l5_b (l5_o + 1) fun (x_12:Int)=>
 ld (.int .i64) l5_b ((l5_o + 1) + 1) fun (x_13:Int)=>
 ld (.int .i64) l5_b (((l5_o + 1) + 1) + 1) fun (x_14:Int)=>
 st t4_b t4_o (.int .i64 x_11) <|
 st t4_b (t4_o + 1) (.int .i64 x_12) <|
 st t4_b ((t4_o + 1) + 1) (.int .i64 x_13) <|
 st t4_b (((t4_o + 1) + 1) + 1) (.int .i64 x_14) <|
 ld (.int .i64) t4_b t4_o fun (x_15:Int)=>
 ld (.int .i64) t4_b (t4_o + 1) fun (x_16:Int)=>
 ld (.int .i64) t4_b ((t4_o + 1) + 1) fun (x_17:Int)=>
 ld (.int .i64) t4_b (((t4_o + 1) + 1) + 1) fun (x_18:Int)=>
 Q (.agg #[.int .i64 x_15,.int .i64 x_16,.int .i64 x_17,.int .i64 x_18])):=by kernel_rfl
theorem f218_l1_raw {jn:Jn} {Q:Value -> WP} {m1:Nat} {s0:Option Addr} {key1:ByteArray} {t4_b t4_o l5_b l5_o:Nat} {i6:Int}:f218_l1 jn Q  (m1 + 1) s0 key1 t4_b t4_o l5_b l5_o i6 = (
 ite2 (decide (i6 < 4)) (
 drawW fun S=>
 nilck s0 fun b_3 o_4=>
 ldS S (.int .i64) b_3 (o_4 + 1) fun (x_5:Int)=>
 nilck s0 fun b_6 o_7=>
 ldS S (.int .i64) b_6 (o_7 + 1) fun (x_8:Int)=>
 call1 (.int .u64) Tryz.prog 69 [.int .u64 (IntKind.wrap .u64 (IntKind.wrap .i64 (i6 + 1))),.string key1] fun (x_9:Int)=>
 keepS true S <|
 call1 (.int .i64) Tryz.prog 68 [.int .u64 x_9,.int .i64 x_8] fun (x_10:Int)=>
 keepS true S <|
 when ((0:Int) <= i6 /\ i6 < ((4:Nat):Int)) <|
 st l5_b (l5_o + (i6).toNat * 1) (.int .i64 (IntKind.wrap .i64 ((IntKind.wrap .i64 (i6 * x_5)) + x_10))) <|
 f218_l1 jn Q  m1 s0 key1 t4_b t4_o l5_b l5_o (IntKind.wrap .i64 (i6 + 1))) (
 f218_j2 jn Q  t4_b t4_o l5_b l5_o)):=by kernel_rfl
theorem f218_raw {jn:Jn} {s0:Option Addr} {key1:ByteArray} {Q:Value -> WP}:funJ jn Tryz.prog f218_kp Tryz.f218 [.pointer s0,.string key1] Q = (
 newB [.int .i64 0,.int .i64 0,.int .i64 0,.int .i64 0] 248 fun b_1=>
 newB [.int .i64 0,.int .i64 0,.int .i64 0,.int .i64 0] 248 fun b_2=>
 exM fun m=>f218_l1 jn Q  m s0 key1 b_1 0 b_2 0 0):=by kernel_rfl
theorem f218_ok:FnOk Tryz.prog 218 Tryz.f218:=⟨mixed,Tryz.func218,rfl⟩
def f219_kp:KP:=⟨[],[(2,[0,1,2,3,4,5,6,7,8,9,10,11,12,13,14,15,16,17,18,19,20,21,22,23,24,25,26,27,28,30,32,33])]⟩
theorem f219_raw {jn:Jn} {s0:Option Addr} {key1:ByteArray} {Q:Value -> WP}:funJ jn Tryz.prog f219_kp Tryz.f219 [.pointer s0,.string key1] Q = (
 fun w=>Calls Tryz.prog 218 #[.pointer s0,.string key1] w fun e w'=>∃ x_1:Int,∃ x_2:Int,∃ x_3:Int,∃ x_4:Int,e = .returned (.agg #[.int .i64 x_1,.int .i64 x_2,.int .i64 x_3,.int .i64 x_4]) /\ (
 newB [.int .i64 0,.int .i64 0,.int .i64 0,.int .i64 0] 248 fun b_5=>
 st b_5 0 (.int .i64 x_1) <|
 st b_5 1 (.int .i64 x_2) <|
 st b_5 2 (.int .i64 x_3) <|
 st b_5 3 (.int .i64 x_4) <|
 drawW fun S=>
 nilck s0 fun b_6 o_7=>
 ldS S .slc b_6 o_7 fun (x_8:Sl)=>
 when ((0:Int) <= (0:Int) /\ (0:Int) < ((4:Nat):Int)) <|
 ldS S (.int .i64) b_5 (0 + ((0:Int)).toNat * 1) fun (x_9:Int)=>
 idx x_8.a x_8.n x_9 fun b_10 o_11=>
 ldS S (.int .i64) b_10 (o_11 + (x_9).toNat * 1) fun (x_12:Int)=>
 nilck s0 fun b_13 o_14=>
 ldS S .slc b_13 o_14 fun (x_15:Sl)=>
 when ((0:Int) <= (1:Int) /\ (1:Int) < ((4:Nat):Int)) <|
 ldS S (.int .i64) b_5 (0 + ((1:Int)).toNat * 1) fun (x_16:Int)=>
 idx x_15.a x_15.n x_16 fun b_17 o_18=>
 ldS S (.int .i64) b_17 (o_18 + (x_16).toNat * 1) fun (x_19:Int)=>
 nilck s0 fun b_20 o_21=>
 ldS S .slc b_20 o_21 fun (x_22:Sl)=>
 when ((0:Int) <= (2:Int) /\ (2:Int) < ((4:Nat):Int)) <|
 ldS S (.int .i64) b_5 (0 + ((2:Int)).toNat * 1) fun (x_23:Int)=>
 idx x_22.a x_22.n x_23 fun b_24 o_25=>
 ldS S (.int .i64) b_24 (o_25 + (x_23).toNat * 1) fun (x_26:Int)=>
 nilck s0 fun b_27 o_28=>
 ldS S .slc b_27 o_28 fun (x_29:Sl)=>
 when ((0:Int) <= (3:Int) /\ (3:Int) < ((4:Nat):Int)) <|
 ld (.int .i64) b_5 (0 + ((3:Int)).toNat * 1) fun (x_30:Int)=>
 keepS true S <|
 idx x_29.a x_29.n x_30 fun b_31 o_32=>
 ld (.int .i64) b_31 (o_32 + (x_30).toNat * 1) fun (x_33:Int)=>
 keepS true S <|
 Q (.int .i64 (mn (mn (mn x_12 x_19) x_26) x_33))) w'):=by kernel_rfl
theorem f219_ok:FnOk Tryz.prog 219 Tryz.f219:=⟨mixed,Tryz.func219,rfl⟩
def f220_kp:KP:=⟨[(5,[0,2]),(10,[0])],[(3,[0,1,2,3,4,5,6,7,9,10,12,13])]⟩
noncomputable def f220_b (l:List Nat):Code:=cAtN l (bodyOf Tryz.f220)
def f220_r (Q:Value -> WP):Env -> WP:=retK Tryz.prog Tryz.f220 Q
def f220_e0 (jn:Jn) (Q:Value -> WP):Env -> WP:=seqK Tryz.prog f220_kp jn (f220_b [1]) (f220_r Q) noX (f220_r Q)
def f220_j2_c (jn:Jn) (Q:Value -> WP):Env -> WP:=codeI Tryz.prog f220_kp jn (f220_b [1]) (f220_r Q) noX (f220_r Q)
def f220_j2 (jn:Jn) (Q:Value -> WP) (s0:Option Addr):WP:=jn 10 (f220_j2_c jn Q ) ((.pointer s0)::us 33 [])
def f220_l1 (jn:Jn) (Q:Value -> WP) (m1:Nat) (s0:Option Addr) (i2:Int):WP:=lop Tryz.prog f220_kp jn (f220_b [0,1,0,0]) (blkX 0 (f220_e0 jn Q) noX) (f220_r Q) m1 ((.pointer s0)::us 1 ((.int .i64 i2)::us 31 []))
theorem f220_j2_raw {jn:Jn} {Q:Value -> WP} {s0:Option Addr}:f220_j2_c jn Q  ((.pointer s0)::us 33 []) = (
 nilck s0 fun b_15 o_16=>
 ld (.int .i64) b_15 (o_16 + 2) fun (x_17:Int)=>
 when ((2:Int) ≠ 0) <|
 nilck s0 fun b_18 o_19=>
 st b_18 (o_19 + 2) (.int .i64 (IntKind.wrap .i64 (Int.tdiv x_17 2))) <|
 Q (.tuple #[])):=by kernel_rfl
theorem f220_l1_raw {jn:Jn} {Q:Value -> WP} {m1:Nat} {s0:Option Addr} {i2:Int}:f220_l1 jn Q  (m1 + 1) s0 i2 = (
 nilck s0 fun b_1 o_2=>
 ld .slc b_1 o_2 fun (x_3:Sl)=>
 ite2 (decide (i2 < (x_3.n:Int))) (
 drawW fun S=>
 nilck s0 fun b_4 o_5=>
 ldS S .slc b_4 o_5 fun (x_6:Sl)=>
 nilck s0 fun b_7 o_8=>
 ld .slc b_7 o_8 fun (x_9:Sl)=>
 keepS true S <|
 idx x_9.a x_9.n i2 fun b_10 o_11=>
 ld (.int .i64) b_10 (o_11 + (i2).toNat * 1) fun (x_12:Int)=>
 keepS true S <|
 when ((2:Int) ≠ 0) <|
 idx x_6.a x_6.n i2 fun b_13 o_14=>
 st b_13 (o_14 + (i2).toNat * 1) (.int .i64 (IntKind.wrap .i64 (Int.tdiv x_12 2))) <|
 f220_l1 jn Q  m1 s0 (IntKind.wrap .i64 (i2 + 1))) (
 f220_j2 jn Q  s0)):=by kernel_rfl
theorem f220_raw {jn:Jn} {s0:Option Addr} {Q:Value -> WP}:funJ jn Tryz.prog f220_kp Tryz.f220 [.pointer s0] Q = (
 exM fun m=>f220_l1 jn Q  m s0 0):=by kernel_rfl
theorem f220_ok:FnOk Tryz.prog 220 Tryz.f220:=⟨mixed,Tryz.func220,rfl⟩
end Go.Proofs.YtmefopmnjncdbaaGreat
