/- texts joined: Words. -/
import Derived.WalkKit
namespace Go.Proofs.YtabdianhoabhhaaGreatDoor
open Go
def n32 (a:BitVec 32):Int:=(a.toNat:Int)
def n8 (x:UInt8):Int:=(x.toNat:Int)
theorem AE1 (a:BitVec 32):0≤n32 a∧n32 a < 4294967296:=by unfold n32;have:=a.isLt;omega
theorem Qp (x:UInt8):0≤n8 x∧n8 x < 256:=by unfold n8;have:=x.toNat_lt;omega
theorem Xt {a b:UInt8} (h:n8 a=n8 b):a=b:=by apply UInt8.toNat_inj.1;unfold n8 at h;omega
theorem AEF (a b:UInt8):(n8 a == n8 b)=decide (a=b):=by
 rw[Bool.eq_iff_iff];simp;exact⟨Xt,fun h=>by rw[h]⟩
theorem ofInt32 (a:BitVec 32):BitVec.ofInt 32 (a.toNat:Int)=a:=by
 rw[BitVec.ofInt_natCast];simp
theorem Pg (a:BitVec 32):IntKind.u32.wrap (a.toNat:Int)=(a.toNat:Int):=by
 have:=a.isLt
 rw[IntKind.wrap_u32'];omega
theorem LY (a b:BitVec 32):bits .xor .u32 (a.toNat:Int) (b.toNat:Int)=((a ^^^ b).toNat:Int):=by
 show IntKind.u32.wrap ((BitVec.ofInt 32 (a.toNat:Int) ^^^ BitVec.ofInt 32 (b.toNat:Int)).toNat:Int)=_
 rw[ofInt32,ofInt32,Pg]
theorem OZ (a b:BitVec 32):bits .and .u32 (a.toNat:Int) (b.toNat:Int)=((a &&& b).toNat:Int):=by
 show IntKind.u32.wrap ((BitVec.ofInt 32 (a.toNat:Int) &&& BitVec.ofInt 32 (b.toNat:Int)).toNat:Int)=_
 rw[ofInt32,ofInt32,Pg]
theorem qV (a b:BitVec 32):bits .or .u32 (a.toNat:Int) (b.toNat:Int)=((a ||| b).toNat:Int):=by
 show IntKind.u32.wrap ((BitVec.ofInt 32 (a.toNat:Int) ||| BitVec.ofInt 32 (b.toNat:Int)).toNat:Int)=_
 rw[ofInt32,ofInt32,Pg]
theorem YM (a:BitVec 32):IntKind.u32.wrap (3988292384*(a.toNat:Int))=((3988292384#32*a).toNat:Int):=by
 rw[IntKind.wrap_u32',BitVec.toNat_mul];simp
theorem kr (c:BitVec 32):Op.unary .xor (.int .u32 (c.toNat:Int))=pure (.int .u32 ((~~~c).toNat:Int)):=by
 have h:bits .xor .u32 4294967295 (c.toNat:Int)=((~~~c).toNat:Int):=by
  have:=LY 4294967295#32 c
  rw[show ((4294967295#32:BitVec 32).toNat:Int)=4294967295 from rfl]at this
  rw[this,show (4294967295#32)=BitVec.allOnes 32 from rfl,BitVec.allOnes_xor]
 rw[unary_xor]
 have e:(if IntKind.u32.signed=true then (-1:Int) else IntKind.u32.max)=4294967295:=by decide
 rw[e,←h];rfl
theorem ku (a:BitVec 32) (yk:IntKind) (n:Nat) (hn:n≤32):Op.shift .shr .u32 (a.toNat:Int) yk (n:Int)=pure (.int .u32 ((a >>> n).toNat:Int)):=by
 rw[shift_shr_any _ _ _ _ (by omega)]
 have:min (n:Int).toNat IntKind.u32.bits=n:=by simp[IntKind.bits];omega
 rw[this,BitVec.toNat_ushiftRight,Nat.shiftRight_eq_div_pow];simp
theorem yg (a:BitVec 32) (yk:IntKind):Op.shift .shr .u32 (a.toNat:Int) yk 1=pure (.int .u32 ((a >>> 1).toNat:Int)):=ku a yk 1 (by omega)
theorem yh (a:BitVec 32) (yk:IntKind):Op.shift .shr .u32 (a.toNat:Int) yk 8=pure (.int .u32 ((a >>> 8).toNat:Int)):=ku a yk 8 (by omega)
theorem qW (x:UInt8):IntKind.u32.wrap (x.toNat:Int)=((x.toBitVec.setWidth 32).toNat:Int):=by
 have:=x.toNat_lt
 rw[IntKind.wrap_u32'];simp[UInt8.toNat_toBitVec];omega
theorem qX (c:BitVec 32):IntKind.u8.wrap (c.toNat:Int)=((UInt8.ofBitVec (c.setWidth 8)).toNat:Int):=by
 rw[IntKind.wrap_u8'];simp[←UInt8.toNat_toBitVec]
theorem ofInt8 (a:UInt8):BitVec.ofInt 8 (a.toNat:Int)=a.toBitVec:=by
 rw[BitVec.ofInt_natCast];apply BitVec.eq_of_toNat_eq;simp
theorem ky (a:UInt8):IntKind.u8.wrap (a.toNat:Int)=(a.toNat:Int):=by
 have:=a.toNat_lt
 rw[IntKind.wrap_u8'];omega
theorem yj (a b:UInt8):bits .xor .u8 (a.toNat:Int) (b.toNat:Int)=((a ^^^ b).toNat:Int):=by
 show IntKind.u8.wrap ((BitVec.ofInt 8 (a.toNat:Int) ^^^ BitVec.ofInt 8 (b.toNat:Int)).toNat:Int)=_
 rw[ofInt8,ofInt8,←ky];rfl
theorem ABp (a b:BitVec 32):bits .xor .u32 (n32 a) (n32 b)=n32 (a ^^^ b):=LY a b
theorem ABq (a b:BitVec 32):bits .and .u32 (n32 a) (n32 b)=n32 (a &&& b):=OZ a b
theorem AE2 (a b:BitVec 32):bits .or .u32 (n32 a) (n32 b)=n32 (a ||| b):=qV a b
theorem au (a:BitVec 32):bits .and .u32 (n32 a) 1=n32 (a &&& 1#32):=OZ a 1#32
theorem YN (a:BitVec 32):bits .xor .u32 (n32 a) 3988292384=n32 (a ^^^ 3988292384#32):=LY a 3988292384#32
theorem YO (a:BitVec 32):IntKind.u32.wrap (3988292384*n32 a)=n32 (3988292384#32*a):=YM a
theorem ABr (c:BitVec 32):Op.unary .xor (.int .u32 (n32 c))=pure (.int .u32 (n32 (~~~c))):=kr c
theorem yn (a:BitVec 32) (yk:IntKind):Op.shift .shr .u32 (n32 a) yk 1=pure (.int .u32 (n32 (a >>> 1))):=yg a yk
theorem yo (a:BitVec 32) (yk:IntKind):Op.shift .shr .u32 (n32 a) yk 8=pure (.int .u32 (n32 (a >>> 8))):=yh a yk
theorem kz (x:UInt8):IntKind.u32.wrap (n8 x)=n32 (x.toBitVec.setWidth 32):=qW x
theorem lC (c:BitVec 32):IntKind.u8.wrap (n32 c)=n8 (UInt8.ofBitVec (c.setWidth 8)):=qX c
theorem AE3 (a b:UInt8):bits .xor .u8 (n8 a) (n8 b)=n8 (a ^^^ b):=yj a b
theorem yu (a:BitVec 32):IntKind.u32.wrap (n32 a)=n32 a:=Pg a
theorem ABs (a:UInt8):IntKind.u8.wrap (n8 a)=n8 a:=ky a
theorem AE4 (a:UInt8):IntKind.i64.wrap (n8 a)=n8 a:=IntWalk.i64_in _ (by have:=Qp a;omega)
theorem ABt (a:BitVec 32):IntKind.i64.wrap (n32 a)=n32 a:=IntWalk.i64_in _ (by have:=AE1 a;omega)
theorem yx (x:UInt8):n8 x % 4294967296=n32 (x.toBitVec.setWidth 32):=by rw[←IntKind.wrap_u32',kz]
theorem yz (c:BitVec 32):n32 c % 256=n8 (UInt8.ofBitVec (c.setWidth 8)):=by rw[←IntKind.wrap_u8',lC]
theorem y7 (a:BitVec 32):n32 a / (2:Int)=n32 (a >>> 1):=by
 unfold n32;rw[BitVec.toNat_ushiftRight,Nat.shiftRight_eq_div_pow];omega
theorem iF (a:BitVec 32):n32 a / (256:Int)=n32 (a >>> 8):=by
 unfold n32;rw[BitVec.toNat_ushiftRight,Nat.shiftRight_eq_div_pow];omega
theorem iG:IntKind.u32.signed=false:=rfl
theorem ABu (c:BitVec 32):bits .xor .u32 IntKind.u32.max (n32 c)=n32 (~~~c):=by
 have:=kr c
 rw[unary_xor]at this
 have e:(if IntKind.u32.signed=true then (-1:Int) else IntKind.u32.max)=IntKind.u32.max:=by decide
 rw[e]at this
 have h2:=congrArg (fun s:Sem Value=>match s with | .pure (.int _ n)=>n | _=>0) this
 exact h2
attribute [go_sem] yx yz ABp ABq AE2 au YN YO kz lC AE3 yu ABs AE4 ABt
attribute [go_sem] ABr yn yo y7 iF iG ABu
end Go.Proofs.YtabdianhoabhhaaGreatDoor
