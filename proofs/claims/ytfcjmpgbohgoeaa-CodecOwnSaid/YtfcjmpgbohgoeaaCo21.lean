/- CODEC: commands and messages that are read. -/
import Derived.Test.YtfcjmpgbohgoeaaCo20
namespace Go.Proofs.Ytfcjmpgbohgoeaa
open Go.RowKit Go.Lib Go.Tk Go.Shelf Go.Vc
set_option linter.unusedVariables false
set_option linter.unusedSimpArgs false
structure CmdOkT (c : CmdV) : Prop where
 i : CmdIn c
 s : Short c
def cmdMk (p : Int × TickV × Int × Int × ByteArray × List LegV × Int × List TaxV × Int) : CmdV := ⟨p.1, p.2.1, p.2.2.1, p.2.2.2.2.1, p.2.2.2.2.2.1, p.2.2.2.2.2.2.1, p.2.2.2.2.2.2.2.1, p.2.2.2.2.2.2.2.2, p.2.2.2.1⟩
def cmdUn (c : CmdV) : Int × TickV × Int × Int × ByteArray × List LegV × Int × List TaxV × Int := (c.kind, c.tick, c.at_, c.amount, c.name, c.legs, c.fare, c.taxes, c.penalty)
theorem cmdF_via : cmdF tk = via cmdMk cmdUn (both (fun σ x => fld .u8 tk σ x 1) (both (tickF tk) (both (fun σ x => fld .u8 tk σ x 1) (both (fun σ x => fld .i64 tk σ x 8) (both (textF tk) (both (fun σ xs => listF (legF tk) ⟨0, 0, 0⟩ tk σ xs 4) (both (fun σ x => fld .i64 tk σ x 8) (both (fun σ xs => listF (taxF tk) ⟨ByteArray.empty, 0⟩ tk σ xs 4) (fun σ x => fld .i64 tk σ x 8))))))))) := by
 funext σ c
 simp only [cmdF, cd1, cd2, cd3, cd4, cd5, cd6, cd7, cd8, cd9, via, both, cmdMk, cmdUn]
set_option maxHeartbeats 4000000 in
theorem cmd_takes : Takes (cmdF tk) cmd0 CmdOkT cmdBy := by
 rw [cmdF_via]
 exact (Takes.via cmdMk cmdUn (fun _ => rfl) (fun _ => rfl) ((fld_takes fit_u8 0).both (tick_takes.both ((fld_takes fit_u8 0).both ((fld_takes fit_i64 0).both (text_takes.both ((list_takes leg_takes 4 (by decide)).both ((fld_takes fit_i64 0).both ((list_takes tax_takes 4 (by decide)).both (fld_takes fit_i64 0)))))))))).weaken
  (fun c => ⟨fun ⟨h1, h2, h3, h4, h5, h6, h7, h8, h9⟩ => ⟨⟨h1, h2, h3, Nat.le_trans h5 (by decide), Nat.le_trans h6.1 (by decide), h6.2, h7, Nat.le_trans h8.1 (by decide), fun t ht => ⟨Nat.le_trans (h8.2 t ht).1 (by decide), (h8.2 t ht).2⟩, h9, h4⟩, ⟨h5, h6.1, h8.1, fun t ht => (h8.2 t ht).1⟩⟩,
   fun h => ⟨h.i.kind, h.i.tick, h.i.at_, h.i.amount, h.s.name, ⟨h.s.legs, h.i.legs⟩, h.i.fare, ⟨h.s.taxes, fun t ht => ⟨h.s.codes t ht, (h.i.taxes t ht).amt⟩⟩, h.i.penalty⟩⟩) (fun _ _ => rfl)
def msgMk (p : Int × TickV × Int × LegV × Int × Int × Int × Int × Int) : MsgV := ⟨p.1, p.2.1, p.2.2.1, p.2.2.2.1, p.2.2.2.2.1, p.2.2.2.2.2.1, p.2.2.2.2.2.2.1, p.2.2.2.2.2.2.2.1, p.2.2.2.2.2.2.2.2⟩
def msgUn (m : MsgV) : Int × TickV × Int × LegV × Int × Int × Int × Int × Int := (m.kind, m.tick, m.at_, m.leg, m.value, m.status, m.nonce, m.amount, m.code)
theorem msgF_via : msgF tk = via msgMk msgUn (both (fun σ x => fld .u8 tk σ x 1) (both (tickF tk) (both (fun σ x => fld .u8 tk σ x 1) (both (legF tk) (both (fun σ x => fld .i64 tk σ x 8) (both (fun σ x => fld .u8 tk σ x 1) (both (fun σ x => fld .u32 tk σ x 4) (both (fun σ x => fld .i64 tk σ x 8) (fun σ x => fld .i64 tk σ x 8))))))))) := by
 funext σ c
 simp only [msgF, md1, md2, md3, md4, md5, md6, md7, md8, md9, via, both, msgMk, msgUn]
set_option maxHeartbeats 4000000 in
theorem msg_takes : Takes (msgF tk) msg0 MsgIn msgBy := by
 rw [msgF_via]
 exact (Takes.via msgMk msgUn (fun _ => rfl) (fun _ => rfl) ((fld_takes fit_u8 0).both (tick_takes.both ((fld_takes fit_u8 0).both (leg_takes.both ((fld_takes fit_i64 0).both ((fld_takes fit_u8 0).both ((fld_takes fit_u32 0).both ((fld_takes fit_i64 0).both (fld_takes fit_i64 0)))))))))).weaken
  (fun c => ⟨fun ⟨h1, h2, h3, h4, h5, h6, h7, h8, h9⟩ => ⟨h1, h2, h3, h4, h5, h6, h7, h8, h9⟩, fun h => ⟨h.kind, h.tick, h.at_, h.leg, h.value, h.status, h.nonce, h.amount, h.code⟩⟩) (fun _ _ => rfl)
end Go.Proofs.Ytfcjmpgbohgoeaa
