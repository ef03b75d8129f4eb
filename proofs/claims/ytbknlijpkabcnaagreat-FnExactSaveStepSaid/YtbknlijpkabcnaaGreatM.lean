/- The models of the data. No condition. -/
import Derived.Test.YtbknlijpkabcnaaGreatK27
namespace Go.Proofs.YtbknlijpkabcnaaGreat.K
set_option linter.all false
open Go

structure MFile where
  Name : Int
  Safe : (List UInt8)
  Late : (List UInt8)
def MFile.av (x : MFile) : AV := .agg [.i .i64 x.Name, .s x.Safe, .s x.Late]
structure MDisk where
  Room : Int
  Files : (List MFile)
def MDisk.av (x : MDisk) : AV := .agg [.i .i64 x.Room, .sl 3 (List.map MFile.av x.Files)]
structure MAccount where
  No : Int
  Kind : Int
def MAccount.av (x : MAccount) : AV := .agg [.i .i64 x.No, .i .i64 x.Kind]
structure MInstr where
  No : Int
  Kind : Int
def MInstr.av (x : MInstr) : AV := .agg [.i .i64 x.No, .i .i64 x.Kind]
structure MBal where
  Account : Int
  Instr : Int
  Amount : Int
def MBal.av (x : MBal) : AV := .agg [.i .i64 x.Account, .i .i64 x.Instr, .i .i64 x.Amount]
structure MLot where
  Account : Int
  Instr : Int
  No : Int
  Qty : Int
  Cost : Int
def MLot.av (x : MLot) : AV := .agg [.i .i64 x.Account, .i .i64 x.Instr, .i .i64 x.No, .i .i64 x.Qty, .i .i64 x.Cost]
structure MTrade where
  No : Int
  Buyer : Int
  Seller : Int
  Paper : Int
  Qty : Int
  Cash : Int
  Price : Int
  State : Int
def MTrade.av (x : MTrade) : AV := .agg [.i .i64 x.No, .i .i64 x.Buyer, .i .i64 x.Seller, .i .i64 x.Paper, .i .i64 x.Qty, .i .i64 x.Cash, .i .i64 x.Price, .i .i64 x.State]
structure MBooks where
  Accounts : (List MAccount)
  Instrs : (List MInstr)
  Bals : (List MBal)
  Lots : (List MLot)
  Trades : (List MTrade)
  Lot : Int
def MBooks.av (x : MBooks) : AV := .agg [.sl 2 (List.map MAccount.av x.Accounts), .sl 2 (List.map MInstr.av x.Instrs), .sl 3 (List.map MBal.av x.Bals), .sl 5 (List.map MLot.av x.Lots), .sl 8 (List.map MTrade.av x.Trades), .i .i64 x.Lot]
structure MSave where
  From : Int
  Books : MBooks
def MSave.av (x : MSave) : AV := .agg [.i .i64 x.From, .sl 2 (List.map MAccount.av x.Books.Accounts), .sl 2 (List.map MInstr.av x.Books.Instrs), .sl 3 (List.map MBal.av x.Books.Bals), .sl 5 (List.map MLot.av x.Books.Lots), .sl 8 (List.map MTrade.av x.Books.Trades), .i .i64 x.Books.Lot]

end Go.Proofs.YtbknlijpkabcnaaGreat.K
