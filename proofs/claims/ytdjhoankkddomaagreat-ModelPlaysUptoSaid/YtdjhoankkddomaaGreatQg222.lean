import Derived.Test.YtdjhoankkddomaaGreatQg221
namespace Go.Proofs.YtdjhoankkddomaaGreat
open Go Go.RowKit Go.Shelf
attribute [local go_sem] Oper.semAt_some
set_option maxHeartbeats 400000 in
theorem bequal_any (l m:List UInt8) (A A':Option Addr) (n c n' c':Nat) (w:World) (h:Sl w (fun _=>True) A n c l) (h':Sl w (fun _=>True) A' n' c' m):Calls Tryz.prog 54 #[.slice A n c,.slice A' n' c'] w fun e w'=>e = .returned (.bool (l==m))∧w'=w:=by
 have Hh:=Lib.hid h
 have Hh':=Lib.hid h'
 clear h h'
 go_enter Tryz.func54,Tryz.ntmps54
 go_wp2_with (first
  | ((with_reducible show wpList _ _ _ (⟨some 6,.convert _ _ _,_,_,_,_⟩::_) _ _);refine wpList_run0 rfl (.string (bstr l)) (run_str_op (.tmp 5) rfl rfl Hh.out) ?_;simp only [Act.put])
  | ((with_reducible show wpList _ _ _ (⟨some 8,.convert _ _ _,_,_,_,_⟩::_) _ _);refine wpList_run0 rfl (.string (bstr m)) (run_str_op (.tmp 7) rfl rfl Hh'.out) ?_;simp only [Act.put])
  | ((with_reducible show wpList _ _ _ (⟨some 9,.binOp _ _ _ _ _,_,_,_,_⟩::_) _ _);refine wpList_run0 rfl (.bool (l==m)) (run_eqstr_op (.tmp 6) (.tmp 8) _ l m rfl rfl rfl _) ?_;simp only [Act.put]))
 go_ret
 exact ⟨rfl,rfl⟩
end Go.Proofs.YtdjhoankkddomaaGreat
namespace Go.Proofs.YtdjhoankkddomaaGreat
open Go Go.RowKit Go.Shelf
attribute [local go_sem] Oper.semAt_some
structure BP (P:Program) (fn:Func) (R:Ending→World→Prop) (ex:Exit) (a:Act) (w:World):Prop where
 out:bodyPost P fn R ex a w
end Go.Proofs.YtdjhoankkddomaaGreat
namespace Go.Proofs.YtdjhoankkddomaaGreat
open Go
end Go.Proofs.YtdjhoankkddomaaGreat
namespace Go.Proofs.YtdjhoankkddomaaGreat
open Go Go.RowKit Go.Shelf
attribute [local go_sem] Oper.semAt_some
end Go.Proofs.YtdjhoankkddomaaGreat
namespace Go.Proofs.YtdjhoankkddomaaGreat
open Go Go.RowKit Go.Shelf
attribute [local go_sem] Oper.semAt_some
theorem drop_at (ls:List (List UInt8)) (k:Nat) (h:k<ls.length):ls.drop k=ls.getD k []::ls.drop (k+1):=by
 rw [List.drop_eq_getElem_cons h,List.getD_eq_getElem?_getD,List.getElem?_eq_getElem h];rfl
theorem dec_cons (x y:List UInt8) (l m:List (List UInt8)):decide (x::l=y::m)=(x==y&&decide (l=m)):=by
 by_cases h:x=y
 ·subst h;simp
 ·simp [h]
set_option maxHeartbeats 2000000 in
set_option maxRecDepth 100000 in
theorem equalfn_any (ls ms:List (List UInt8)) (A A':Option Addr) (n c n' c':Nat) (w:World) (h:Es w (fun _=>True) A n c ls) (h':Es w (fun _=>True) A' n' c' ms):Calls Tryz.prog 53 #[.slice A n c,.slice A' n' c',.func (.func 54) #[] #[]] w fun e w'=>e = .returned (.bool (decide (ls=ms)))∧w'=w:=by
 have hroom:=h.room
 have hmx:=h.max
 unfold maxLen at hmx
 have hroom':=h'.room
 have hmx':=h'.max
 unfold maxLen at hmx'
 obtain ⟨r,hr⟩:∃ r,decide (ls=ms)=r:=⟨_,rfl⟩
 rw [hr]
 have hlen:=h.len
 have hlen':=h'.len
 by_cases hnn:n=n'
 ·subst hnn
  have Hr:=Lib.hid hr
  have Hlen:=Lib.hid hlen
  have Hlen':=Lib.hid hlen'
  have hn1:(((n:Int)) != (n:Int))=false:=by simp
  clear hr hlen hlen'
  go_enter Tryz.func53,Tryz.ntmps53
  go_wp2_with fail
  go_loopw [7,8,9,17] (fun _ _ _ v17 wr=>∃ k:Nat,k≤n∧v17 = .int .i64 (k:Int)∧decide (ls.drop k=ms.drop k)=r∧wr=w) (fun _ _ _ v17 _=>n - (intOf v17).toNat)
  case atStart=>exact ⟨0,Nat.zero_le _,rfl,Hr.out,rfl⟩
  case round =>
   obtain ⟨k,hk,rfl,hf,rfl⟩:=hrel
   by_cases hkn:k<n
   ·have hd:decide ((k:Int)<(n:Int))=true:=by simp;omega
    have hwk:IntKind.i64.wrap ((k:Int)+1)=(k:Int)+1:=IntWalk.i64_in _ (by omega)
    obtain ⟨b,o,rfl,-,-,hat⟩:=h.at_ (by omega)
    obtain ⟨Ai,ci,hc,hsl⟩:=hat k hkn
    obtain ⟨b',o',rfl,-,-,hat'⟩:=h'.at_ (by omega)
    obtain ⟨Ai',ci',hc',hsl'⟩:=hat' k hkn
    rw [drop_at ls k (by rw [Hlen.out];exact hkn),drop_at ms k (by rw [Hlen'.out];exact hkn),dec_cons] at hf
    have h1:=bequal_any (ls.getD k []) (ms.getD k []) Ai Ai' (ls.getD k []).length ci (ms.getD k []).length ci' wr hsl hsl'
    obtain ⟨x,hx⟩:∃ x,ls.getD k []=x:=⟨_,rfl⟩
    obtain ⟨y,hy⟩:∃ x,ms.getD k []=x:=⟨_,rfl⟩
    rw [hx] at hc h1 hf
    rw [hy] at hc' h1 hf
    obtain ⟨q,hq⟩:∃ q,(x==y)=q:=⟨_,rfl⟩
    rw [hq] at h1 hf
    have H1:=Lib.hid h1
    have Hf:=Lib.hid hf
    clear h1 hf hq hx hy hat hat' hsl hsl'
    cases q with
    | true =>
     go_wp2_with (go_at_call 54;refine H1.out.mono ?_;rintro e w2 ⟨rfl,hww⟩;obtain rfl:=hww.symm)
     go_roundw
     case rel=>exact ⟨k+1,by omega,by go_num,by simpa using Hf.out,by first|rfl|trivial⟩
     case measure=>simp [intOf];omega
    | false =>
     obtain rfl:false=r:=by simpa using Hf.out
     go_wp2_with (go_at_call 54;refine H1.out.mono ?_;rintro e w2 ⟨rfl,hww⟩;obtain rfl:=hww.symm)
     go_ret
     exact ⟨rfl,rfl⟩
   ·obtain rfl:k=n:=by omega
    have hd:decide ((k:Int)<(k:Int))=false:=by simp
    rw [List.drop_of_length_le (by rw [Hlen.out];exact Nat.le_refl _),List.drop_of_length_le (by rw [Hlen'.out];exact Nat.le_refl _)] at hf
    obtain rfl:true=r:=by simpa using hf
    go_wp2_with fail
    go_ret
    exact ⟨rfl,rfl⟩
 ·obtain rfl:false=r:=by
   rw [← hr]
   exact (decide_eq_false fun e=>hnn (by rw [← hlen,← hlen',e])).symm
  have hn1:(((n:Int)) != (n':Int))=true:=by simp;omega
  have hn2:¬ (n:Int)=(n':Int):=by omega
  clear hr
  go_enter Tryz.func53,Tryz.ntmps53
  go_wp2_with fail
  go_ret
  exact ⟨rfl,rfl⟩
end Go.Proofs.YtdjhoankkddomaaGreat
