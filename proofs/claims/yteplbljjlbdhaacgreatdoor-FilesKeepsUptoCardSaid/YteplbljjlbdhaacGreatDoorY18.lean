/- Walks and lemmas on the program of this seat, used by its statements; each theorem bears its own conditions. -/
import Derived.Test.YteplbljjlbdhaacGreatDoorY17
import Derived.Test.YteplbljjlbdhaacGreatDoorY13
namespace Go.Proofs.YteplbljjlbdhaacGreatDoor
open Go.RowKit
set_option linter.unusedVariables false
set_option linter.unusedSimpArgs false
set_option linter.unusedSectionVars false
set_option maxHeartbeats 16000000
set_option maxRecDepth 100000
theorem num_junk {B:List UInt8} (hl:B.length=512) (hj:JunkB B):numF (B.take 64)=0:=by
 unfold numF
 split
 ·rfl
 ·split
  ·next he =>
   exfalso
   apply hj
   obtain⟨m,hm⟩:∃ m,getN (((B.take 64).drop 1).take 6)=m:=⟨_,rfl⟩
   rw[hm] at he
   have h7:byteAt (headP m) 7=0:=by
    have e:headP m=(83::putN 6 m)++([0]++List.replicate 56 255):=by unfold headP;simp
    have:=at_mid (83::putN 6 m) [0] (List.replicate 56 255) 0 (by simp)
    rw[e]
    have hlen:(83::putN 6 m).length=7:=by simp [putN_len]
    rw[hlen] at this
    exact this
   rw[he,byteAt_eq _ _ (by rw[List.length_take];omega),List.getElem_take,← byteAt_eq _ _ (by omega)] at h7
   exact h7
  ·rfl
theorem SegIs.num {num u:Nat} {rs:List (List UInt8)} {B:List UInt8} (h:SegIs num rs u B) (h1:1≤num) (h2:num<256 ^ 6):numF (B.take 64)=num:=by
 obtain⟨l,_,_,_,_,h5⟩:=h.ex
 rw[h5,List.append_assoc]
 exact head_num num h1 h2 _
theorem nf_block (bs:List UInt8) (fs k:Nat):nfF bs fs k=numF ((blockOf bs (fs+k)).take 64):=by
 unfold nfF blockOf
 rw[List.take_take,show 512*fs+k*512=512*(fs+k) by omega]
 rfl
end Go.Proofs.YteplbljjlbdhaacGreatDoor
